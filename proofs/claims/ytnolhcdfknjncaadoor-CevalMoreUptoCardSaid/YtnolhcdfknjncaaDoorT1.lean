/-
  The program's evaluator: a term's frame; the closure that evaluates a Kid.
-/
import Derived.Test.YtnolhcdfknjncaaDoorF2
set_option linter.unusedVariables false
set_option linter.unusedSimpArgs false
namespace Go.Proofs.YtnolhcdfknjncaaDoor
open Go.RowKit

/-- the three variables of a term's frame that the closure sees -/
structure TermAt (rb B : Nat) (m : Mem) (V : World) (t : Core) (v : Array Value) (e : PEnv) (ge : Value) (b0 : Nat) : Prop where
  r : At rb m V b0 (.cells #[.pointer (some ⟨rb, 0, none⟩)] 49 (0, 0))
  c : At rb m V (b0 + 1) (.cells v 26 (0, 0))
  k : At rb m V (b0 + 2) (.cells #[ge] 83 (0, 0))
  core : CoreIn B V t v
  env : EnvIn rb m V e ge
theorem TermAt.evo {rb B : Nat} {inp : List Int} {fuel : Nat} {s : St} {m m' : Mem} {V V' : World} {t : Core} {v : Array Value} {e : PEnv} {ge : Value} {b0 : Nat} (h : TermAt rb B m V t v e ge b0) (hg : Good rb B inp fuel s m V) (hk : Evo rb m m' V V') : TermAt rb B m' V' t v e ge b0 :=
  ⟨h.r.evo hk, h.c.evo hk, h.k.evo hk, h.core.stay (hg.stay hk), h.env.evo hk⟩

set_option maxRecDepth 100000 in
set_option maxHeartbeats 4000000 in
theorem kid_term {rb B : Nat} {inp : List Int} {fuel n : Nat} (hok : TermOk rb B inp fuel n) {s : St} {m : Mem} {V : World} (hg : Good rb B inp fuel s m V) {t : Core} {v : Array Value} {e : PEnv} {ge : Value} {b0 : Nat} (hT : TermAt rb B m V t v e ge b0) (hwt : WT t) {i : Nat} (hi : i < t.cs.length) (hn : s.left < n) :
    Calls Tryd.prog 38 #[.int .i64 (i : Int), .pointer (some ⟨b0, 0, none⟩), .pointer (some ⟨b0 + 1, 0, none⟩), .pointer (some ⟨b0 + 2, 0, none⟩)] V (EvPost rb B inp fuel m V (ev inp n t.cs[i] e s)) := by
  obtain ⟨k0, n0, ks, cs, Ak, ck, Ac, cc, b, o, G0, G1, G2, G3, rfl, rfl, hks, hck, hcc, hK⟩ := hT.core.open_
  simp only [Core.cs] at hi ⊢
  obtain ⟨rfl, hbB⟩ := hK.hA (by omega)
  obtain ⟨pk, rfl⟩ := hT.env.shape
  obtain ⟨g0, g1, A2, n2, d2, A3, n3, d3, hsh⟩ := (hK.hsub i hi).shape
  have hs := hsh
  simp only [Array.mk.injEq, List.cons.injEq, and_true] at hsh
  obtain ⟨s0, s1, s2, s3⟩ := hsh
  have HS := Lib.hid (fun (V' : World) (m' : Mem) (hE : Evo rb m m' V V') => (show V'.cell? ⟨b0, 0, none⟩ = some (.pointer (some ⟨rb, 0, none⟩)) ∧ V'.cell? ⟨b0 + 1, 3, none⟩ = some (.slice (some ⟨b, o, none⟩) cs.length cc) ∧ V'.cell? ⟨b0 + 2, 0, none⟩ = some (.pointer pk) ∧
      V'.cell? ⟨b, o + i * 4, none⟩ = some (.int .i64 g0) ∧ V'.cell? ⟨b, o + i * 4 + 1, none⟩ = some (.int .i64 g1) ∧ V'.cell? ⟨b, o + i * 4 + 2, none⟩ = some (.slice A2 n2 d2) ∧ V'.cell? ⟨b, o + i * 4 + 3, none⟩ = some (.slice A3 n3 d3) from by
    have hst := hg.stay hE
    refine ⟨at_cell0 (hT.r.evo hE) rfl, at_cell0 (hT.c.evo hE) rfl, at_cell0 (hT.k.evo hE) rfl, ?_, ?_, ?_, ?_⟩
    · rw [← s0]; exact hst _ _ _ hbB (hK.c0 i hi)
    · rw [← s1]; exact hst _ _ _ hbB (hK.c1 i hi)
    · rw [← s2]; exact hst _ _ _ hbB (hK.c2 i hi)
    · rw [← s3]; exact hst _ _ _ hbB (hK.c3 i hi)))
  have hd : Evo rb m m V V.drew := (Evo.refl _ _ _).drew
  have HC := Lib.hid ((hok cs[i] e s m V.drew #[.int .i64 g0, .int .i64 g1, .slice A2 n2 d2, .slice A3 n3 d3] (.pointer pk) (by rw [← hs]; exact (hK.hsub i hi).stay (hg.stay hd)) (hwt.kid (List.getElem_mem hi)) (hT.env.evo hd) (hg.below (Below.refl _ _).drew) hn).mono fun en V' h => (show EvPost rb B inp fuel m V (ev inp n cs[i] e s) en V' from h.from_ hd))
  generalize ev inp n cs[i] e s = out at *
  have hi0 : (0 : Int) ≤ (i : Int) := by omega
  have hi1 : (i : Int) < (cs.length : Int) := by omega
  have hi2 : (i : Int).toNat = i := by omega
  clear hok hg hT hwt hK hks hck hcc hs s0 s1 s2 s3 hd
  generalize cs.length = L at *
  go_enter Tryd.func38, Tryd.ntmps38
  go_wp2_with fail
  go_region_held2 (fun V' => V'.cell? ⟨b0, 0, none⟩ = some (.pointer (some ⟨rb, 0, none⟩)) ∧ V'.cell? ⟨b0 + 1, 3, none⟩ = some (.slice (some ⟨b, o, none⟩) L cc) ∧ V'.cell? ⟨b0 + 2, 0, none⟩ = some (.pointer pk) ∧
      V'.cell? ⟨b, o + i * 4, none⟩ = some (.int .i64 g0) ∧ V'.cell? ⟨b, o + i * 4 + 1, none⟩ = some (.int .i64 g1) ∧ V'.cell? ⟨b, o + i * 4 + 2, none⟩ = some (.slice A2 n2 d2) ∧ V'.cell? ⟨b, o + i * 4 + 3, none⟩ = some (.slice A3 n3 d3))
    (first | exact HS.out _ _ (Evo.refl _ _ _).drew | exact HS.out _ _ hEV)
    ((go_at_call 26; refine HC.out.mono ?_; rintro en w' h; obtain ⟨mE, hEV⟩ := h.evo; rcases h.ends with ⟨g, rfl, hP⟩ | ⟨ch, rfl, hP⟩; rotate_left; exact ⟨rfl, hP⟩))
  all_goals (go_wp2_with fail; go_ret; exact hP)
end Go.Proofs.YtnolhcdfknjncaaDoor
