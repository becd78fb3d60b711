/-
  4 texts of this seat in one: K15 K16 K10 K11.
-/
import Derived.Test.YtnobggabjpcbfaaQM2
import Derived.Test.YtnobggabjpcbfaaQM11
/-
  Bodies that a law puts together: rows of binds.
-/
set_option linter.unusedVariables false
set_option linter.unusedSimpArgs false
namespace Go.Proofs.Ytnobggabjpcbfaa
open Go.RowKit

end Go.Proofs.Ytnobggabjpcbfaa

/-
  Bodies on a set of blocks: what they lead to lies in blocks of the set.
-/
set_option linter.unusedVariables false
set_option linter.unusedSimpArgs false
namespace Go.Proofs.Ytnobggabjpcbfaa
open Go.RowKit

def AtomsOn (F : Nat → Prop) (w : World) (A : Option Addr) (ats : List Atm) : Prop :=
  ats.length * 16 ≤ 140737488351232 ∧ (ats = [] ∨ ∃ b o, A = some ⟨b, o, none⟩ ∧ F b ∧ ∀ j, j < ats.length → w.cell? ⟨b, o + j * 2, none⟩ = some (.bool (ats[j]?.getD default).v) ∧ w.cell? ⟨b, o + j * 2 + 1, none⟩ = some (.int .i64 (ats[j]?.getD default).n))
def IntsOn (F : Nat → Prop) (w : World) (A : Option Addr) (ks : List Int) : Prop :=
  ks.length * 8 ≤ 140737488351232 ∧ (ks = [] ∨ ∃ b o, A = some ⟨b, o, none⟩ ∧ F b ∧ ∀ j, j < ks.length → w.cell? ⟨b, o + j, none⟩ = some (.int .i64 (nth ks j)))
theorem AtomsOn.mono {F G : Nat → Prop} {w : World} {A : Option Addr} {ats : List Atm} (h : AtomsOn F w A ats) (hF : ∀ k, F k → G k) : AtomsOn G w A ats :=
  ⟨h.1, h.2.imp id (fun ⟨b, o, e, hlt, hc⟩ => ⟨b, o, e, hF b hlt, hc⟩)⟩
theorem IntsOn.mono {F G : Nat → Prop} {w : World} {A : Option Addr} {ks : List Int} (h : IntsOn F w A ks) (hF : ∀ k, F k → G k) : IntsOn G w A ks :=
  ⟨h.1, h.2.imp id (fun ⟨b, o, e, hlt, hc⟩ => ⟨b, o, e, hF b hlt, hc⟩)⟩
/-- a body's binds from number i on, in blocks of the set -/
inductive AnfOn (F : Nat → Prop) (w : World) : Nat → Nat → Nat → Anf → Prop
  | ret (b o i : Nat) (a : Atm) : AnfOn F w b o i (.ret a)
  | bind {b o i : Nat} {x k n : Int} {ats : List Atm} {ks : List Int} {bl : List Anf} {rest : Anf} {Aa Ak Al : Option Addr} {ca ck cl bb oo : Nat} {AB : Nat → Option Addr} {CB BB OO : Nat → Nat} (hb : F b)
      (c0 : w.cell? ⟨b, o + i * 6, none⟩ = some (.int .i64 x)) (c1 : w.cell? ⟨b, o + i * 6 + 1, none⟩ = some (.int .i64 k)) (c2 : w.cell? ⟨b, o + i * 6 + 2, none⟩ = some (.int .i64 n))
      (c3 : w.cell? ⟨b, o + i * 6 + 3, none⟩ = some (.slice Aa ats.length ca)) (c4 : w.cell? ⟨b, o + i * 6 + 4, none⟩ = some (.slice Ak ks.length ck)) (c5 : w.cell? ⟨b, o + i * 6 + 5, none⟩ = some (.slice Al bl.length cl))
      (ha : AtomsOn F w Aa ats) (hac : ats.length ≤ ca) (hk : IntsOn F w Ak ks) (hkc : ks.length ≤ ck) (hlc : bl.length ≤ cl) (hl8 : bl.length * 40 ≤ 140737488351232) (hA : 0 < bl.length → Al = some ⟨bb, oo, none⟩ ∧ F bb)
      (d0 : ∀ j (h : j < bl.length), w.cell? ⟨bb, oo + j * 3, none⟩ = some (.slice (AB j) bl[j].len (CB j))) (d1 : ∀ j (h : j < bl.length), w.cell? ⟨bb, oo + j * 3 + 1, none⟩ = some (.bool bl[j].last.v)) (d2 : ∀ j (h : j < bl.length), w.cell? ⟨bb, oo + j * 3 + 2, none⟩ = some (.int .i64 bl[j].last.n))
      (hs : ∀ j (h : j < bl.length), bl[j].len ≤ CB j ∧ bl[j].len * 96 ≤ 140737488351232 ∧ (0 < bl[j].len → AB j = some ⟨BB j, OO j, none⟩)) (hsub : ∀ j (h : j < bl.length), AnfOn F w (BB j) (OO j) 0 bl[j])
      (hr : AnfOn F w b o (i + 1) rest) : AnfOn F w b o i (.bind x k n ats ks bl rest)
theorem AnfOn.mono {F G : Nat → Prop} (hF : ∀ k, F k → G k) {w : World} {b o i : Nat} {t : Anf} (h : AnfOn F w b o i t) : AnfOn G w b o i t := by
  induction h with
  | ret b o i a => exact .ret b o i a
  | bind hlt c0 c1 c2 c3 c4 c5 ha hac hk hkc hlc hl8 hA d0 d1 d2 hs hsub hr ih1 ih2 =>
    exact .bind (hF _ hlt) c0 c1 c2 c3 c4 c5 (ha.mono hF) hac (hk.mono hF) hkc hlc hl8 (fun h => ⟨(hA h).1, hF _ (hA h).2⟩) d0 d1 d2 hs ih1 ih2
theorem AnfOn.at_ {B : Nat} {w : World} {b o i : Nat} {t : Anf} (h : AnfOn (· < B) w b o i t) : AnfAt B w b o i t := by
  induction h with
  | ret b o i a => exact .ret b o i a
  | bind hlt c0 c1 c2 c3 c4 c5 ha hac hk hkc hlc hl8 hA d0 d1 d2 hs hsub hr ih1 ih2 =>
    exact .bind hlt c0 c1 c2 c3 c4 c5 ha hac hk hkc hlc hl8 hA d0 d1 d2 hs ih1 ih2
def BodyOn (F : Nat → Prop) (w : World) (t : Anf) (v : Array Value) : Prop :=
  ∃ A c b o, v = #[.slice A t.len c, .bool t.last.v, .int .i64 t.last.n] ∧ t.len ≤ c ∧ t.len * 96 ≤ 140737488351232 ∧ (0 < t.len → A = some ⟨b, o, none⟩) ∧ AnfOn F w b o 0 t
theorem BodyOn.in_ {F : Nat → Prop} {B : Nat} {w : World} {t : Anf} {v : Array Value} (h : BodyOn F w t v) (hF : ∀ k, F k → k < B) : BodyIn B w t v := by
  obtain ⟨A, c, b, o, h1, h2, h3, h4, h5⟩ := h
  exact ⟨A, c, b, o, h1, h2, h3, h4, (h5.mono hF).at_⟩
/-- a bind as six values -/
def BindOn (F : Nat → Prop) (w : World) (x k n : Int) (ats : List Atm) (ks : List Int) (bl : List Anf) (cs : List Value) : Prop :=
  ∃ (Aa Ak Al : Option Addr) (ca ck cl : Nat), cs = [.int .i64 x, .int .i64 k, .int .i64 n, .slice Aa ats.length ca, .slice Ak ks.length ck, .slice Al bl.length cl] ∧ AtomsOn F w Aa ats ∧ ats.length ≤ ca ∧ IntsOn F w Ak ks ∧ ks.length ≤ ck ∧ bl.length ≤ cl ∧ bl.length * 40 ≤ 140737488351232 ∧
    ∀ j (h : j < bl.length), ∃ bb oo g0 g1 g2, Al = some ⟨bb, oo, none⟩ ∧ F bb ∧ w.cell? ⟨bb, oo + j * 3, none⟩ = some g0 ∧ w.cell? ⟨bb, oo + j * 3 + 1, none⟩ = some g1 ∧ w.cell? ⟨bb, oo + j * 3 + 2, none⟩ = some g2 ∧ BodyOn F w bl[j] #[g0, g1, g2]
theorem AnfOn.cons_ {F : Nat → Prop} {w : World} {b o i : Nat} {x k n : Int} {ats : List Atm} {ks : List Int} {bl : List Anf} {rest : Anf} {cs : List Value} (hb : F b) (h : BindOn F w x k n ats ks bl cs) (hc : ∀ q, q < 6 → w.cell? ⟨b, o + i * 6 + q, none⟩ = cs[q]?) (hr : AnfOn F w b o (i + 1) rest) : AnfOn F w b o i (.bind x k n ats ks bl rest) := by
  obtain ⟨Aa, Ak, Al, ca, ck, cl, rfl, h2, h3, h4, h5, h6, h7, h8⟩ := h
  have each : ∀ j : Nat, ∃ p : Nat × Nat × Option Addr × Nat × Nat × Nat, ∀ h : j < bl.length, Al = some ⟨p.1, p.2.1, none⟩ ∧ F p.1 ∧ w.cell? ⟨p.1, p.2.1 + j * 3, none⟩ = some (.slice p.2.2.1 bl[j].len p.2.2.2.1) ∧ w.cell? ⟨p.1, p.2.1 + j * 3 + 1, none⟩ = some (.bool bl[j].last.v) ∧ w.cell? ⟨p.1, p.2.1 + j * 3 + 2, none⟩ = some (.int .i64 bl[j].last.n) ∧
      (bl[j].len ≤ p.2.2.2.1 ∧ bl[j].len * 96 ≤ 140737488351232 ∧ (0 < bl[j].len → p.2.2.1 = some ⟨p.2.2.2.2.1, p.2.2.2.2.2, none⟩)) ∧ AnfOn F w p.2.2.2.2.1 p.2.2.2.2.2 0 bl[j] := fun j => by
    by_cases hj : j < bl.length
    · obtain ⟨bb, oo, g0, g1, g2, e1, e2, e3, e4, e5, A, c, b', o', hv, q2, q3, q4, q5⟩ := h8 j hj
      simp only [Array.mk.injEq, List.cons.injEq, and_true] at hv
      obtain ⟨rfl, rfl, rfl⟩ := hv
      exact ⟨(bb, oo, A, c, b', o'), fun _ => ⟨e1, e2, e3, e4, e5, ⟨q2, q3, q4⟩, q5⟩⟩
    · exact ⟨(0, 0, none, 0, 0, 0), fun h => absurd h hj⟩
  obtain ⟨P, hP⟩ := Classical.axiomOfChoice each
  by_cases h0 : 0 < bl.length
  · have hsame : ∀ j (h : j < bl.length), (P j).1 = (P 0).1 ∧ (P j).2.1 = (P 0).2.1 := fun j h => by
      have a1 := (hP j h).1
      have a2 := (hP 0 h0).1
      rw [a1] at a2
      simp only [Option.some.injEq, Addr.mk.injEq, and_true] at a2
      exact a2
    refine .bind (bb := (P 0).1) (oo := (P 0).2.1) (AB := fun j => (P j).2.2.1) (CB := fun j => (P j).2.2.2.1) (BB := fun j => (P j).2.2.2.2.1) (OO := fun j => (P j).2.2.2.2.2) hb (hc 0 (by omega)) (hc 1 (by omega)) (hc 2 (by omega)) (hc 3 (by omega)) (hc 4 (by omega)) (hc 5 (by omega)) h2 h3 h4 h5 h6 h7 (fun _ => ⟨(hP 0 h0).1, (hP 0 h0).2.1⟩) ?_ ?_ ?_ ?_ ?_ hr
    · intro j h; have := (hP j h).2.2.1; rw [(hsame j h).1, (hsame j h).2] at this; exact this
    · intro j h; have := (hP j h).2.2.2.1; rw [(hsame j h).1, (hsame j h).2] at this; exact this
    · intro j h; have := (hP j h).2.2.2.2.1; rw [(hsame j h).1, (hsame j h).2] at this; exact this
    · intro j h; exact (hP j h).2.2.2.2.2.1
    · intro j h; exact (hP j h).2.2.2.2.2.2
  · refine .bind (bb := 0) (oo := 0) (AB := fun _ => none) (CB := fun _ => 0) (BB := fun _ => 0) (OO := fun _ => 0) hb (hc 0 (by omega)) (hc 1 (by omega)) (hc 2 (by omega)) (hc 3 (by omega)) (hc 4 (by omega)) (hc 5 (by omega)) h2 h3 h4 h5 h6 h7 (fun h => absurd h h0) ?_ ?_ ?_ ?_ ?_ hr
    all_goals intro j h; omega
end Go.Proofs.Ytnobggabjpcbfaa

/-
  Flat programs: the statements' Nodes.
-/
set_option linter.unusedVariables false
set_option linter.unusedSimpArgs false
namespace Go.Proofs.Ytnobggabjpcbfaa
open Go.RowKit

set_option maxRecDepth 100000 in
set_option maxHeartbeats 4000000 in
theorem nodesA_any : ∀ (N : Nat) {t : Anf} {v : Array Value}, SizeOf.sizeOf t < N → ∀ (W : World), BodyIn W.heap.size W t v → ∀ most : Int, -1000 ≤ most → most ≤ 1000 →
    Calls Try.prog 18 #[.agg v, .int .i64 most] W fun e w' => e = .returned (.int .i64 (nodesA t most 1)) ∧ Below W.heap.size W w'
  | 0, _, _, h => absurd h (Nat.not_lt_zero _)
  | N + 1, t, v, hsz => by
    intro W hin most hm1 hm2
    have ih := @nodesA_any N
    obtain ⟨A, c, b, o, rfl, hc, h96, hA, hB⟩ := hin.at_
    obtain ⟨W0, hW0⟩ : ∃ W0, W.alloc (.cells #[.slice A t.len c, .bool t.last.v, .int .i64 t.last.n] 27) = W0 := ⟨_, rfl⟩
    have hb0 : Below W.heap.size W W0 := by rw [← hW0]; exact (Below.refl _ _).alloc (Nat.le_refl _) _
    have hs0 : W.heap.size < W0.heap.size := by rw [← hW0]; simp
    have e0 : W0.cell? ⟨W.heap.size, 0, none⟩ = some (.slice A t.len c) := by rw [← hW0, World.cell?_alloc_at _ _ _ _ rfl]; rfl
    have HBI := Lib.hid (fun (i : Nat) (hi : i < t.len) (V : World) (hV : Below W0.heap.size W0 V) =>
      (show ∃ x k n ats ks bl Aa ca Ak ck Al cl, A = some ⟨b, o, none⟩ ∧ b < W.heap.size ∧ Hid (t.tail i = .bind x k n ats ks bl (t.tail (i + 1))) ∧ V.cell? ⟨b, o + i * 6 + 1, none⟩ = some (.int .i64 k) ∧ V.cell? ⟨b, o + i * 6 + 2, none⟩ = some (.int .i64 n) ∧ V.cell? ⟨b, o + i * 6 + 3, none⟩ = some (.slice Aa ats.length ca) ∧ V.cell? ⟨b, o + i * 6 + 4, none⟩ = some (.slice Ak ks.length ck) ∧ V.cell? ⟨b, o + i * 6 + 5, none⟩ = some (.slice Al bl.length cl) ∧ ats.length ≤ 9000000000000 ∧ ks.length ≤ 18000000000000 ∧ bl.length ≤ cl ∧ bl.length ≤ 4000000000000 ∧
        Hid (∀ j (h : j < bl.length) (V2 : World) (h2 : Below V.heap.size V V2), ∃ bb oo A0 n0 c0 r0 r1, Al = some ⟨bb, oo, none⟩ ∧ V2.cell? ⟨bb, oo + j * 3, none⟩ = some (.slice A0 n0 c0) ∧ V2.cell? ⟨bb, oo + j * 3 + 1, none⟩ = some (.bool r0) ∧ V2.cell? ⟨bb, oo + j * 3 + 2, none⟩ = some (.int .i64 r1) ∧
          ∀ m : Int, -1000 ≤ m → m ≤ 1000 → (1 ≤ nodesA bl[j] m 1 ∧ nodesA bl[j] m 1 ≤ max 1 (m + 27000000000000)) ∧ Calls Try.prog 18 #[.agg #[.slice A0 n0 c0, .bool r0, .int .i64 r1], .int .i64 m] V2 fun e w' => e = .returned (.int .i64 (nodesA bl[j] m 1)) ∧ Below V2.heap.size V2 w') from by
        obtain ⟨x, k, n, ats, ks, bl, Aa, ca, Ak, ck, Al, cl, he, hbi⟩ := hB i hi
        have hV0 : Below W.heap.size W V := hb0.trans (hV.mono hb0.size)
        have ha := hbi.ha.1
        have hk := hbi.hk.1
        have h8 := hbi.hl8
        refine ⟨x, k, n, ats, ks, bl, Aa, ca, Ak, ck, Al, cl, hA (by omega), hbi.lt, Lib.hid he, (hV0.cell (p := ⟨_, _, none⟩) hbi.lt).trans hbi.c1, (hV0.cell (p := ⟨_, _, none⟩) hbi.lt).trans hbi.c2, (hV0.cell (p := ⟨_, _, none⟩) hbi.lt).trans hbi.c3, (hV0.cell (p := ⟨_, _, none⟩) hbi.lt).trans hbi.c4, (hV0.cell (p := ⟨_, _, none⟩) hbi.lt).trans hbi.c5, by omega, by omega, hbi.hlc, by omega, Lib.hid (fun j hj V2 h2 => ?_)⟩
        obtain ⟨bb, oo, g0, g1, g2, e1, e2, e3, e4, e5, hbd⟩ := hbi.blk j hj
        have hV2 : Below W.heap.size W V2 := hV0.trans (h2.mono hV0.size)
        have hbl : ∀ m, nodesA bl[j] m 1 ≤ max 1 (m + 27000000000000) := fun m => by
          obtain ⟨_, _, _, _, -, -, -, -, h5⟩ := hbd
          exact nodesA_le h5 m 1
        obtain ⟨A0, c0, b0, o0, hv, -⟩ := hbd.at_
        simp only [Array.mk.injEq, List.cons.injEq, and_true] at hv
        obtain ⟨rfl, rfl, rfl⟩ := hv
        refine ⟨bb, oo, A0, _, c0, _, _, e1, (hV2.cell (p := ⟨_, _, none⟩) e2).trans e3, (hV2.cell (p := ⟨_, _, none⟩) e2).trans e4, (hV2.cell (p := ⟨_, _, none⟩) e2).trans e5, fun m k1 k2 => ?_⟩
        have hlt := size_block he (List.getElem_mem hj)
        exact ⟨⟨nodesA_ge _ _ _, hbl m⟩, ih (by omega) V2 ((hbd.kept hV2).mono hV2.size) m k1 k2⟩))
    have HLE := Lib.hid (fun (i : Nat) (m n : Int) => (show nodesA (t.tail i) m n ≤ max n (m + 27000000000000) from by
      obtain ⟨_, _, b1, o1, -, -, -, -, h5⟩ := hin
      exact nodesA_le (h5.from_ i) m n))
    have HB0 := Lib.hid hb0
    have HS0 := Lib.hid hs0
    have HT := Lib.hid (Anf.tail_ret t)
    have HZ := Lib.hid (Anf.tail_zero t)
    clear ih hB hin hb0 hA hs0
    obtain ⟨tl, htl⟩ : ∃ tl, t.len = tl := ⟨_, rfl⟩
    rw [htl] at e0 HBI HT h96 hc hW0 ⊢
    have htl8 : tl ≤ 2000000000000 := by omega
    clear h96 hc hsz htl
    obtain ⟨FIN, hFIN⟩ : ∃ z, nodesA t most 1 = z := ⟨_, rfl⟩
    have HF := Lib.hid hFIN
    rw [hFIN]
    clear hFIN
    generalize t.last.v = lv at *
    generalize t.last.n = ln at *
    go_enter Try.func18, Try.ntmps18
    go_wp2_with fail
    go_loopw [5, 6, 7, 8] (fun n i _ _ wr => ∃ (j : Nat) (m : Int), j ≤ tl ∧ i = .int .i64 (j : Int) ∧ n = .int .i64 m ∧ Hid (Below W0.heap.size W0 wr) ∧ 1 ≤ m ∧ m ≤ 27000000001000 ∧ Hid (FIN = nodesA (t.tail j) most m)) (fun _ i _ _ _ => tl + 1 - (intOf i).toNat)
    case atStart => exact ⟨0, 1, by omega, rfl, rfl, Lib.hid (Below.refl _ _), by omega, by omega, Lib.hid (by rw [HZ.out, HF.out])⟩
    case round =>
      obtain ⟨wo, rfl⟩ : ∃ wo, wo = wr := ⟨_, rfl⟩
      obtain ⟨j, m, hj, rfl, rfl, hbel, hm3, hm4, heq⟩ := hrel
      have q0 := (hbel.out.cell (p := ⟨W.heap.size, 0, none⟩) HS0.out).trans e0
      by_cases hlt : j < tl
      · have hj0 : (0 : Int) ≤ (j : Int) := by omega
        have hjl : (j : Int) < (tl : Int) := by omega
        by_cases hmm : m < most
        · obtain ⟨x, k, n, ats, ks, bl, Aa, ca, Ak, ck, Al, cl, rfl, hbW, htail, c1, c2, c3, c4, c5, l1, l2, l3, l4, HBL⟩ := HBI.out j hlt wo hbel.out
          have HST := Lib.hid (heq.out.trans (nodesA_step htail.out hmm))
          clear heq htail
          have hal : (1 : Int) + (ats.length : Int) + (ks.length : Int) ≤ 27000000000001 := by omega
          obtain ⟨bn, hbn⟩ : ∃ bn, bl.length = bn := ⟨_, rfl⟩
          rw [hbn] at c5 l3 l4
          have HBN := Lib.hid hbn
          clear hbn
          have hge := nodesLA_ge bl most (m + (1 + ats.length + ks.length))
          have HGE := Lib.hid hge
          clear hge
          generalize ats.length = al at *
          generalize ks.length = kl at *
          obtain ⟨W1, hW1⟩ : ∃ W1, wo.alloc (.cells #[.int .i64 k, .int .i64 n, .slice Aa al ca, .slice Ak kl ck, .slice Al bn cl] 52) = W1 := ⟨_, rfl⟩
          have hb1 : Below wo.heap.size wo W1 := by rw [← hW1]; exact (Below.refl _ _).alloc (Nat.le_refl _) _
          have hs1 : wo.heap.size < W1.heap.size := by rw [← hW1]; simp
          have r2 : W1.cell? ⟨wo.heap.size, 2, none⟩ = some (.slice Aa al ca) := by rw [← hW1, World.cell?_alloc_at _ _ _ _ rfl]; rfl
          have r3 : W1.cell? ⟨wo.heap.size, 3, none⟩ = some (.slice Ak kl ck) := by rw [← hW1, World.cell?_alloc_at _ _ _ _ rfl]; rfl
          have r4 : W1.cell? ⟨wo.heap.size, 4, none⟩ = some (.slice Al bn cl) := by rw [← hW1, World.cell?_alloc_at _ _ _ _ rfl]; rfl
          have w1 : IntKind.i64.wrap (1 + (al : Int)) = 1 + (al : Int) := by rw [IntKind.wrap_i64]; omega
          have w2 : IntKind.i64.wrap (1 + (al : Int) + (kl : Int)) = 1 + (al : Int) + (kl : Int) := by rw [IntKind.wrap_i64]; omega
          have w3 : IntKind.i64.wrap (m + (1 + (al : Int) + (kl : Int))) = m + (1 + (al : Int) + (kl : Int)) := by rw [IntKind.wrap_i64]; omega
          go_wp2_with fail
          go_loopw [5, 8] (fun nn kk wr2 => ∃ (q : Nat) (m2 : Int), q ≤ bn ∧ kk = .int .i64 (q : Int) ∧ nn = .int .i64 m2 ∧ Hid (Below W1.heap.size W1 wr2) ∧ 1 ≤ m2 ∧ m2 ≤ 27000000001000 ∧ Hid (nodesLA bl most (m + (1 + (al : Int) + (kl : Int))) = nodesLA (bl.drop q) most m2)) (fun _ kk _ => bn + 1 - (intOf kk).toNat)
          case atStart => exact ⟨0, m + (1 + (al : Int) + (kl : Int)), by omega, rfl, rfl, Lib.hid (Below.refl _ _), by omega, by omega, Lib.hid (by simp)⟩
          case round =>
            obtain ⟨q, m2, hq, rfl, rfl, hbel2, hn1, hn2, heq2⟩ := hrel
            have x4 := (hbel2.out.cell (p := ⟨wo.heap.size, 4, none⟩) hs1).trans r4
            have hbo : Below wo.heap.size wo wr := hb1.trans (hbel2.out.mono hb1.size)
            have HBO := Lib.hid hbo
            clear hbo
            have q0' := (HBO.out.cell (p := ⟨W.heap.size, 0, none⟩) (Nat.lt_of_lt_of_le HS0.out hbel.out.size)).trans q0
            by_cases hlq : q < bn
            · have hq0 : (0 : Int) ≤ (q : Int) := by omega
              have hql : (q : Int) < (bn : Int) := by omega
              by_cases hmq : m2 < most
              · have hqb : q < bl.length := by rw [HBN.out]; exact hlq
                obtain ⟨bb, oo, A0, n0, c0', v0, v1, rfl, y0, y1, y2, hC⟩ := HBL.out q hqb wr HBO.out
                obtain ⟨⟨hk1, hk2⟩, hC1⟩ := hC (most - m2) (by omega) (by omega)
                have HC := Lib.hid hC1
                have HE := Lib.hid (heq2.out.trans (nodesLA_step hqb hmq))
                clear hC hC1 heq2
                generalize nodesA bl[q] (most - m2) 1 = nk at *
                have z1 : IntKind.i64.wrap (most - m2) = most - m2 := by rw [IntKind.wrap_i64]; omega
                have z2 : IntKind.i64.wrap (m2 + nk) = m2 + nk := by rw [IntKind.wrap_i64]; omega
                have z3 : IntKind.i64.wrap ((q : Int) + 1) = (q : Int) + 1 := by rw [IntKind.wrap_i64]; omega
                go_wp2_with (go_at_call 18; refine HC.out.mono ?_; rintro e w' ⟨rfl, hb2⟩)
                go_roundw
                case rel => exact ⟨q + 1, m2 + nk, by omega, by go_num, by first | rfl | go_num, Lib.hid (hbel2.out.trans (hb2.mono hbel2.out.size)), by omega, by omega, HE.out⟩
                case measure => simp [intOf]; omega
              · have HE := Lib.hid (heq2.out.trans (nodesLA_stop hmq))
                clear heq2
                have z3 : IntKind.i64.wrap ((j : Int) + 1) = (j : Int) + 1 := by rw [IntKind.wrap_i64]; omega
                go_wp2_with fail
                go_roundw
                case rel => exact ⟨j + 1, m2, by omega, by go_num, rfl, Lib.hid (hbel.out.trans (HBO.out.mono hbel.out.size)), by omega, by omega, Lib.hid (by rw [HST.out, HE.out])⟩
                case measure => simp [intOf]; omega
            · have hql : ¬ (q : Int) < (bn : Int) := by omega
              have hdr : bl.drop q = [] := List.drop_eq_nil_iff.2 (by rw [HBN.out]; omega)
              have HE := Lib.hid (heq2.out.trans (by rw [hdr]; rfl : _ = m2))
              clear heq2 hdr
              have z3 : IntKind.i64.wrap ((j : Int) + 1) = (j : Int) + 1 := by rw [IntKind.wrap_i64]; omega
              go_wp2_with fail
              go_roundw
              case rel => exact ⟨j + 1, m2, by omega, by go_num, rfl, Lib.hid (hbel.out.trans (HBO.out.mono hbel.out.size)), by omega, by omega, Lib.hid (by rw [HST.out, HE.out])⟩
              case measure => simp [intOf]; omega
        · have hmn : ¬ (m : Int) < most := hmm
          have HE := Lib.hid (heq.out.trans (nodesA_stop hmm))
          clear heq
          go_wp2_with fail
          go_ret
          exact ⟨ret_int (by rw [HE.out]), HB0.out.trans (hbel.out.mono (Nat.le_of_lt HS0.out))⟩
      · have hjl : ¬ (j : Int) < (tl : Int) := by omega
        have HE := Lib.hid (heq.out.trans (by rw [HT.out j (by omega)]; rfl : _ = m))
        clear heq
        go_wp2_with fail
        go_ret
        exact ⟨ret_int (by rw [HE.out]), HB0.out.trans (hbel.out.mono (Nat.le_of_lt HS0.out))⟩
end Go.Proofs.Ytnobggabjpcbfaa

/-
  Flat programs: the statements' Few.
-/
set_option linter.unusedVariables false
set_option linter.unusedSimpArgs false
namespace Go.Proofs.Ytnobggabjpcbfaa
open Go.RowKit

def fewN : List FFun → Int → Int
  | [], n => n
  | g :: gs, n => if n < 700 then fewN gs (n + (1 + nodesA g.body (700 - n) 1)) else n
def fewF (p : FlatP) (inp : List Int) : Bool := decide (fewN p.funs (nodesA p.main 700 1) < 700 ∧ inp.length ≤ 60)
theorem fewN_step {l : List FFun} {j : Nat} (hj : j < l.length) {n : Int} (hn : n < 700) : fewN (l.drop j) n = fewN (l.drop (j + 1)) (n + (1 + nodesA l[j].body (700 - n) 1)) := by
  rw [List.drop_eq_getElem_cons hj, fewN, if_pos hn]
theorem fewN_stop {l : List FFun} {n : Int} (hn : ¬ n < 700) : fewN l n = n := by
  cases l with
  | nil => rfl
  | cons c cs => rw [fewN, if_neg hn]
theorem BodyIn.bound {B : Nat} {w : World} {t : Anf} {v : Array Value} (h : BodyIn B w t v) (m n : Int) : nodesA t m n ≤ max n (m + 27000000000000) := by
  obtain ⟨_, _, _, _, -, -, -, -, h5⟩ := h
  exact nodesA_le h5 m n
set_option maxRecDepth 100000 in
set_option maxHeartbeats 4000000 in
theorem fewF_any {p : FlatP} {v : Array Value} (W : World) (hin : FlatIn W.heap.size W p v) (inp : List Int) (Ai : Option Addr) (ci : Nat) :
    Calls Try.prog 7 #[.agg v, .slice Ai inp.length ci] W fun e w' => e = .returned (.bool (fewF p inp)) ∧ Below W.heap.size W w' := by
  obtain ⟨Af, cf, b, o, m0, m1, m2, rfl, hcf, h56, hmain, hA, hfun⟩ := hin
  obtain ⟨A0, c0, b0, o0, hv, -⟩ := hmain.at_
  simp only [Array.mk.injEq, List.cons.injEq, and_true] at hv
  obtain ⟨rfl, rfl, rfl⟩ := hv
  generalize p.main.len = ml at *
  generalize p.main.last.v = lv at *
  generalize p.main.last.n = ln at *
  obtain ⟨W0, hW0⟩ : ∃ W0, W.alloc (.cells #[.slice Af p.funs.length cf, .slice A0 ml c0, .bool lv, .int .i64 ln] 29) = W0 := ⟨_, rfl⟩
  have hb0 : Below W.heap.size W W0 := by rw [← hW0]; exact (Below.refl _ _).alloc (Nat.le_refl _) _
  have hs0 : W.heap.size < W0.heap.size := by rw [← hW0]; simp
  have e0 : W0.cell? ⟨W.heap.size, 0, none⟩ = some (.slice Af p.funs.length cf) := by rw [← hW0, World.cell?_alloc_at _ _ _ _ rfl]; rfl
  have e1 : W0.cell? ⟨W.heap.size, 1, none⟩ = some (.slice A0 ml c0) := by rw [← hW0, World.cell?_alloc_at _ _ _ _ rfl]; rfl
  have e2 : W0.cell? ⟨W.heap.size, 2, none⟩ = some (.bool lv) := by rw [← hW0, World.cell?_alloc_at _ _ _ _ rfl]; rfl
  have e3 : W0.cell? ⟨W.heap.size, 3, none⟩ = some (.int .i64 ln) := by rw [← hW0, World.cell?_alloc_at _ _ _ _ rfl]; rfl
  have HM := Lib.hid (nodesA_any _ (Nat.lt_succ_self _) W0 ((hmain.kept hb0).mono hb0.size) 700 (by decide) (by decide))
  have hmb := hmain.bound 700 1
  have hmg := nodesA_ge p.main 700 1
  have HFN := Lib.hid (fun (j : Nat) (hj : j < p.funs.length) (V : World) (hV : Below W0.heap.size W0 V) =>
    (show ∃ B0 n0 d0 r0 r1, Af = some ⟨b, o, none⟩ ∧ V.cell? ⟨b, o + j * 5 + 2, none⟩ = some (.slice B0 n0 d0) ∧ V.cell? ⟨b, o + j * 5 + 3, none⟩ = some (.bool r0) ∧ V.cell? ⟨b, o + j * 5 + 4, none⟩ = some (.int .i64 r1) ∧
      ∀ m : Int, -1000 ≤ m → m ≤ 1000 → (1 ≤ nodesA p.funs[j].body m 1 ∧ nodesA p.funs[j].body m 1 ≤ max 1 (m + 27000000000000)) ∧ Calls Try.prog 18 #[.agg #[.slice B0 n0 d0, .bool r0, .int .i64 r1], .int .i64 m] V fun e w' => e = .returned (.int .i64 (nodesA p.funs[j].body m 1)) ∧ Below V.heap.size V w' from by
      have hV0 : Below W.heap.size W V := hb0.trans (hV.mono hb0.size)
      obtain ⟨g0, g1, g2, -, -, k2, k3, k4, hbd⟩ := hfun j hj
      obtain ⟨ha, hlt⟩ := hA (by omega)
      obtain ⟨B0, d0, b1, o1, hv, -⟩ := hbd.at_
      have hbl := hbd.bound
      simp only [Array.mk.injEq, List.cons.injEq, and_true] at hv
      obtain ⟨rfl, rfl, rfl⟩ := hv
      exact ⟨B0, _, d0, _, _, ha, (hV0.cell (p := ⟨_, _, none⟩) hlt).trans k2, (hV0.cell (p := ⟨_, _, none⟩) hlt).trans k3, (hV0.cell (p := ⟨_, _, none⟩) hlt).trans k4, fun m q1 q2 => ⟨⟨nodesA_ge _ _ _, hbl m 1⟩, nodesA_any _ (Nat.lt_succ_self _) V ((hbd.kept hV0).mono hV0.size) m q1 q2⟩⟩))
  have HB0 := Lib.hid hb0
  have HS0 := Lib.hid hs0
  obtain ⟨fl, hfl⟩ : ∃ fl, p.funs.length = fl := ⟨_, rfl⟩
  have HFL := Lib.hid hfl
  rw [hfl] at e0 h56 hW0 ⊢
  obtain ⟨FIN, hFIN⟩ : ∃ z, fewF p inp = z := ⟨_, rfl⟩
  have HF := Lib.hid hFIN
  rw [hFIN]
  unfold fewF at hFIN
  have HF2 := Lib.hid hFIN
  clear hmain hfun hA hb0 hs0 hfl hFIN hcf
  generalize inp.length = il at *
  obtain ⟨mn, hmn⟩ : ∃ mn, nodesA p.main 700 1 = mn := ⟨_, rfl⟩
  rw [hmn] at HM HF2 hmb hmg
  clear hmn
  have hfl8 : fl ≤ 3000000000000 := by omega
  go_enter Try.func7, Try.ntmps7
  go_wp2_with (go_at_call 18; refine HM.out.mono ?_; rintro e w1 ⟨rfl, hb1⟩)
  go_loopw [5, 6] (fun n i wr => ∃ (j : Nat) (m : Int), j ≤ fl ∧ i = .int .i64 (j : Int) ∧ n = .int .i64 m ∧ Hid (Below W0.heap.size W0 wr) ∧ 1 ≤ m ∧ m ≤ 27000000000701 ∧ Hid (fewN p.funs mn = fewN (p.funs.drop j) m)) (fun _ i _ => fl + 1 - (intOf i).toNat)
  case atStart => exact ⟨0, mn, by omega, rfl, rfl, Lib.hid hb1, by omega, by omega, Lib.hid (by simp)⟩
  case round =>
    obtain ⟨j, m, hj, rfl, rfl, hbel, hm3, hm4, heq⟩ := hrel
    have q0 := (hbel.out.cell (p := ⟨W.heap.size, 0, none⟩) HS0.out).trans e0
    by_cases hgo : j < fl ∧ m < 700
    · obtain ⟨hlt, hm7⟩ := hgo
      have hj0 : (0 : Int) ≤ (j : Int) := by omega
      have hjl : (j : Int) < (fl : Int) := by omega
      have hjb : j < p.funs.length := by rw [HFL.out]; exact hlt
      obtain ⟨B0, n0, d0, r0, r1, rfl, y0, y1, y2, hC⟩ := HFN.out j hjb wr hbel.out
      obtain ⟨⟨hk1, hk2⟩, hC1⟩ := hC (700 - m) (by omega) (by omega)
      have HC := Lib.hid hC1
      have HE := Lib.hid (heq.out.trans (fewN_step hjb hm7))
      clear hC hC1 heq
      generalize nodesA p.funs[j].body (700 - m) 1 = nk at *
      have z1 : IntKind.i64.wrap (700 - m) = 700 - m := by rw [IntKind.wrap_i64]; omega
      have z2 : IntKind.i64.wrap (1 + nk) = 1 + nk := by rw [IntKind.wrap_i64]; omega
      have z4 : IntKind.i64.wrap (m + (1 + nk)) = m + (1 + nk) := by rw [IntKind.wrap_i64]; omega
      have z3 : IntKind.i64.wrap ((j : Int) + 1) = (j : Int) + 1 := by rw [IntKind.wrap_i64]; omega
      go_wp2_with (go_at_call 18; refine HC.out.mono ?_; rintro e w' ⟨rfl, hb2⟩)
      go_roundw
      case rel => exact ⟨j + 1, m + (1 + nk), by omega, by go_num, by first | rfl | go_num, Lib.hid (hbel.out.trans (hb2.mono hbel.out.size)), by omega, by omega, HE.out⟩
      case measure => simp [intOf]; omega
    · have HE := Lib.hid (show fewN p.funs mn = m from heq.out.trans (by
        by_cases h7 : m < 700
        · have hd : p.funs.drop j = [] := List.drop_eq_nil_iff.2 (by rw [HFL.out]; omega)
          rw [hd]; rfl
        · exact fewN_stop h7))
      clear heq
      have HR := Lib.hid (show FIN = decide (m < 700 ∧ il ≤ 60) from by rw [← HF2.out, HE.out])
      by_cases hlt : j < fl
      · have h7 : ¬ m < 700 := fun h => hgo ⟨hlt, h⟩
        have hjl : (j : Int) < (fl : Int) := by omega
        clear hgo
        go_wp2_with fail
        go_ret
        exact ⟨ret_bool (by rw [HR.out]; exact (decide_eq_false (fun h => by have := h.1; omega)).symm), HB0.out.trans (hbel.out.mono (Nat.le_of_lt HS0.out))⟩
      · have hjl : ¬ (j : Int) < (fl : Int) := by omega
        clear hgo
        by_cases h7 : m < 700
        · by_cases h6 : il ≤ 60
          · have h6' : (il : Int) ≤ 60 := by omega
            go_wp2_with fail
            go_ret
            exact ⟨ret_bool (by rw [HR.out]; simp [h7, h6]), HB0.out.trans (hbel.out.mono (Nat.le_of_lt HS0.out))⟩
          · have h6' : ¬ (il : Int) ≤ 60 := by omega
            go_wp2_with fail
            go_ret
            exact ⟨ret_bool (by rw [HR.out]; simp [h7, h6]), HB0.out.trans (hbel.out.mono (Nat.le_of_lt HS0.out))⟩
        · go_wp2_with fail
          go_ret
          exact ⟨ret_bool (by rw [HR.out]; exact (decide_eq_false (fun h => by have := h.1; omega)).symm), HB0.out.trans (hbel.out.mono (Nat.le_of_lt HS0.out))⟩
end Go.Proofs.Ytnobggabjpcbfaa
