/-
  The program's evaluator: functions that know one another: the walk.
-/
import Derived.Test.YtnolhcdfknjncaaDoorF1
set_option linter.unusedVariables false
set_option linter.unusedSimpArgs false
namespace Go.Proofs.YtnolhcdfknjncaaDoor
open Go.RowKit

theorem infoFn : (Tryd.prog.info? 88).map (fun i => (i.zero, i.size, i.bytes)) = some (some (.pointer none), 1, 8) := by kernel_rfl

theorem und125 : Tryd.prog.underlying 125 = some (.slice 88) := by kernel_rfl

def FixPost (rb B : Nat) (inp : List Int) (fuel : Nat) (s : St) (m : Mem) (W : World) (t : Core) (e : PEnv) (en : Ending) (W' : World) : Prop :=
  ∃ m' gp, en = .returned (.pointer gp) ∧ Good rb B inp fuel { s with fns := s.fns ++ fixFns (fixEnv t.ks s.fns.length e) t.ks t.cs } m' W' ∧ Evo rb m m' W W' ∧ EnvIn rb m' W' (fixEnv t.ks s.fns.length e) (.pointer gp)

set_option maxRecDepth 100000 in
set_option maxHeartbeats 4000000 in
theorem fixed_any {rb B : Nat} {inp : List Int} {fuel : Nat} {s : St} {m : Mem} {W : World} (hg : Good rb B inp fuel s m W) {t : Core} {v : Array Value} (hin : CoreIn B W t v) (hwt : WT t) (hk6 : t.k = 6) {e : PEnv} {ge : Value} (he : EnvIn rb m W e ge) :
    Calls Tryd.prog 42 #[.agg v, ge] W (FixPost rb B inp fuel s m W t e) := by
  obtain ⟨k0, n0, ks, cs, Ak, ck, Ac, cc, b, o, G0, G1, G2, G3, rfl, rfl, hks, hck, hcc, hK⟩ := hin.open_
  have hcnt := hwt.node.2.2.2.1
  simp only [Core.k] at hk6
  subst hk6
  simp only [Core.k, Core.ks, Core.cs, Core.n, cntB, if_true] at hcnt
  have hcnt := of_decide_eq_true hcnt
  obtain ⟨q, hq⟩ : ∃ q, ks.length = 2 * q := ⟨ks.length / 2, by omega⟩
  have hcl : cs.length = q + 1 := by omega
  have hq1 : 1 ≤ q := by omega
  obtain ⟨pk, rfl⟩ := he.shape
  obtain ⟨bk, ok, rfl, hbk, hkc⟩ := hks.at_ (by omega)
  have hlen64 : q ≤ 10000000000000 := by have := hks.1; omega
  obtain ⟨rfl, hbB⟩ := hK.hA (by omega)
  have hBs := hg.Bs
  rw [hq, hcl]
  obtain ⟨W0, hW0⟩ : ∃ W0, W.alloc (.cells #[.int .i64 6, .int .i64 n0, .slice (some ⟨bk, ok, none⟩) (2 * q) ck, .slice (some ⟨b, o, none⟩) (q + 1) cc] 26) = W0 := ⟨_, rfl⟩
  have hb0 : Below W.heap.size W W0 := by rw [← hW0]; exact (Below.refl _ _).alloc (Nat.le_refl _) _
  have hsz0 : W0.heap.size = W.heap.size + 1 := by rw [← hW0]; simp
  have hc2 : W0.cell? ⟨W.heap.size, 2, none⟩ = some (.slice (some ⟨bk, ok, none⟩) (2 * q) ck) := by rw [← hW0, World.cell?_alloc_at _ _ _ _ rfl]; rfl
  have hc3 : W0.cell? ⟨W.heap.size, 3, none⟩ = some (.slice (some ⟨b, o, none⟩) (q + 1) cc) := by rw [← hW0, World.cell?_alloc_at _ _ _ _ rfl]; rfl
  -- what is read in a round
  have HR := Lib.hid (fun (V : World) (k : Nat) (hV : Below W0.heap.size W0 V) (hk : k < q) =>
    (show V.cell? ⟨W.heap.size, 2, none⟩ = some (.slice (some ⟨bk, ok, none⟩) (2 * q) ck) ∧ V.cell? ⟨W.heap.size, 3, none⟩ = some (.slice (some ⟨b, o, none⟩) (q + 1) cc) ∧
        V.cell? ⟨bk, ok + 2 * k, none⟩ = some (.int .i64 (nth ks (2 * k))) ∧ V.cell? ⟨bk, ok + (2 * k + 1), none⟩ = some (.int .i64 (nth ks (2 * k + 1))) ∧
        V.cell? ⟨b, o + k * 4, none⟩ = some (G0 k) ∧ V.cell? ⟨b, o + k * 4 + 1, none⟩ = some (G1 k) ∧ V.cell? ⟨b, o + k * 4 + 2, none⟩ = some (G2 k) ∧ V.cell? ⟨b, o + k * 4 + 3, none⟩ = some (G3 k) from
      have hbb : Below B W V := (hb0.mono hBs).trans (hV.mono (by omega))
      ⟨(hV.cell (p := ⟨_, _, none⟩) (by show W.heap.size < _; omega)).trans hc2, (hV.cell (p := ⟨_, _, none⟩) (by show W.heap.size < _; omega)).trans hc3,
       (hbb.cell (p := ⟨_, _, none⟩) hbk).trans (hkc _ (by omega)), (hbb.cell (p := ⟨_, _, none⟩) hbk).trans (hkc _ (by omega)),
       (hbb.cell (p := ⟨_, _, none⟩) hbB).trans (hK.c0 k (by omega)), (hbb.cell (p := ⟨_, _, none⟩) hbB).trans (hK.c1 k (by omega)), (hbb.cell (p := ⟨_, _, none⟩) hbB).trans (hK.c2 k (by omega)), (hbb.cell (p := ⟨_, _, none⟩) hbB).trans (hK.c3 k (by omega))⟩))
  have HE := Lib.hid (fun (W' : World) (bs : List Nat) (v : Value) (gp : Option Addr) (h : FixIn W0 W' ks G0 G1 G2 G3 (.pointer pk) q (fun _ => .pointer gp) bs v (.pointer gp)) =>
    (show FixPost rb B inp fuel s m W (.mk 6 n0 ks cs) e (.returned (.pointer gp)) W' from by
      obtain ⟨g1, g2, g3⟩ := hg.fixed hb0 hK (fun c hc => hwt.kid hc) hq (by omega) he h
      exact ⟨_, gp, rfl, g1, g2, g3⟩))
  have HG := Lib.hid (fun (k : Nat) (hk : k < q) => (hK.hsub k (by omega)).shape)
  have HC2 := Lib.hid hc2
  have HB := Lib.hid (show W.heap.size < W0.heap.size by omega)
  obtain ⟨i0, hinf, hz0, hz1, hz2⟩ := info_parts infoFn
  clear hc2 hc3 hkc hK hks hcnt hg he hwt hin hb0 hsz0 hck hcc hcl hq
  go_enter Tryd.func42, Tryd.ntmps42
  go_wp2_with fail
  go_loopw [6, 5, 1] (fun i l kn wr => ∃ (k : Nat) (bs : List Nat), k ≤ q ∧ i = .int .i64 (2 * (k : Int)) ∧ FixIn W0 wr ks G0 G1 G2 G3 (.pointer pk) k (fun _ => .pointer none) bs l kn) (fun i _ _ _ => 2 * q + 2 - (intOf i).toNat)
  case atStart => exact ⟨0, [], by omega, rfl, FixIn.start _ _ _ _ _ _ _ _⟩
  case round =>
    obtain ⟨k, bs, hk, rfl, hF⟩ := hrel
    by_cases hlt : k < q
    · obtain ⟨r2, r3, r4, r5, r6, r7, r8, r9⟩ := HR.out wr k hF.below hlt
      obtain ⟨kp, rfl⟩ := hF.lk.shape ⟨_, rfl⟩
      have hlt' : 2 * (k : Int) + 1 < 2 * (q : Int) := by omega
      have hlt2 : (k : Int) < (q : Int) + 1 := by omega
      have hq2 : (2 * (k : Int)).tdiv 2 = (k : Int) := by rw [Int.mul_comm]; exact Int.mul_tdiv_cancel _ (by decide)
      have hw1 : IntKind.i64.wrap (2 * (k : Int) + 1) = 2 * (k : Int) + 1 := by rw [IntKind.wrap_i64]; omega
      have hw2 : IntKind.i64.wrap (k : Int) = (k : Int) := by rw [IntKind.wrap_i64]; omega
      have hge : (0 : Int) ≤ 2 * (k : Int) + 1 := by omega
      have hge2 : (0 : Int) ≤ 2 * (k : Int) := by omega
      have hlt3 : 2 * (k : Int) < 2 * (q : Int) := by omega
      have hn2 : (2 * (k : Int)).toNat = 2 * k := by omega
      have hn1 : (2 * (k : Int) + 1).toNat = 2 * k + 1 := by omega
      have hml : k + 1 ≤ maxLen := by unfold maxLen; omega
      obtain ⟨g0, g1, A2, n2, d2, A3, n3, d3, hsh⟩ := HG.out k hlt
      simp only [Array.mk.injEq, List.cons.injEq, and_true] at hsh
      obtain ⟨s0, s1, s2, s3⟩ := hsh
      rw [s0] at r6
      rw [s1] at r7
      rw [s2] at r8
      rw [s3] at r9
      have S0 := Lib.hid s0
      have S1 := Lib.hid s1
      have S2 := Lib.hid s2
      have S3 := Lib.hid s3
      clear s0 s1 s2 s3
      have HS := Lib.hid (fun (V : World) (hV : Below wr.heap.size wr V) => (show V.cell? ⟨W.heap.size, 2, none⟩ = some (.slice (some ⟨bk, ok, none⟩) (2 * q) ck) ∧ V.cell? ⟨W.heap.size, 3, none⟩ = some (.slice (some ⟨b, o, none⟩) (q + 1) cc) ∧
        V.cell? ⟨bk, ok + (2 * k + 1), none⟩ = some (.int .i64 (nth ks (2 * k + 1))) ∧
        V.cell? ⟨b, o + k * 4, none⟩ = some (.int .i64 g0) ∧ V.cell? ⟨b, o + k * 4 + 1, none⟩ = some (.int .i64 g1) ∧ V.cell? ⟨b, o + k * 4 + 2, none⟩ = some (.slice A2 n2 d2) ∧ V.cell? ⟨b, o + k * 4 + 3, none⟩ = some (.slice A3 n3 d3) from
        ⟨cell_behind hV r2, cell_behind hV r3, cell_behind hV r5, cell_behind hV r6, cell_behind hV r7, cell_behind hV r8, cell_behind hV r9⟩))
      go_wp2_with fail
      go_region_held2 (fun V => V.cell? ⟨W.heap.size, 2, none⟩ = some (.slice (some ⟨bk, ok, none⟩) (2 * q) ck) ∧ V.cell? ⟨W.heap.size, 3, none⟩ = some (.slice (some ⟨b, o, none⟩) (q + 1) cc) ∧
        V.cell? ⟨bk, ok + (2 * k + 1), none⟩ = some (.int .i64 (nth ks (2 * k + 1))) ∧
        V.cell? ⟨b, o + k * 4, none⟩ = some (.int .i64 g0) ∧ V.cell? ⟨b, o + k * 4 + 1, none⟩ = some (.int .i64 g1) ∧ V.cell? ⟨b, o + k * 4 + 2, none⟩ = some (.slice A2 n2 d2) ∧ V.cell? ⟨b, o + k * 4 + 3, none⟩ = some (.slice A3 n3 d3))
        (first | exact HS.out _ (Below.refl _ _).drew | exact HS.out _ ((Below.refl _ _).drew.alloc (Nat.le_refl _) _)) (fail)
      have hbel2 : Below wr.heap.size wr ((wr.alloc (.cells #[.int .i64 (nth ks (2 * k + 1)), .int .i64 g0, .int .i64 g1, .slice A2 n2 d2, .slice A3 n3 d3, .pointer none] 90)).alloc (.cells #[.pointer (some ⟨wr.heap.size, 0, none⟩)] 88)).drew := (((Below.refl _ _).alloc (Nat.le_refl _) _).alloc (by rw [World.size_alloc]; exact Nat.le_succ _) _).drew
      have hsz2 : wr.heap.size ≤ ((wr.alloc (.cells #[.int .i64 (nth ks (2 * k + 1)), .int .i64 g0, .int .i64 g1, .slice A2 n2 d2, .slice A3 n3 d3, .pointer none] 90)).alloc (.cells #[.pointer (some ⟨wr.heap.size, 0, none⟩)] 88)).drew.heap.size := hbel2.size
      have hrow : ((wr.alloc (.cells #[.int .i64 (nth ks (2 * k + 1)), .int .i64 g0, .int .i64 g1, .slice A2 n2 d2, .slice A3 n3 d3, .pointer none] 90)).alloc (.cells #[.pointer (some ⟨wr.heap.size, 0, none⟩)] 88)).drew.ownsRow W0.heap.size 88 1 u5 k (bs.map fun b => .pointer (some ⟨b, 0, none⟩)) := ((hF.row.alloc _).alloc _).drew
      have hnews : ∀ j u, [Value.pointer (some ⟨wr.heap.size, 0, none⟩)][j]? = some u → ((wr.alloc (.cells #[.int .i64 (nth ks (2 * k + 1)), .int .i64 g0, .int .i64 g1, .slice A2 n2 d2, .slice A3 n3 d3, .pointer none] 90)).alloc (.cells #[.pointer (some ⟨wr.heap.size, 0, none⟩)] 88)).drew.cell? ((⟨wr.heap.size + 1, 0, none⟩ : Addr).add j) = some u := by
        have := cell_one_new (wr.alloc (.cells #[.int .i64 (nth ks (2 * k + 1)), .int .i64 g0, .int .i64 g1, .slice A2 n2 d2, .slice A3 n3 d3, .pointer none] 90)) (.pointer (some ⟨wr.heap.size, 0, none⟩)) 88
        rw [World.size_alloc] at this
        exact this
      have hwsz := hF.below.size
      have HZ := Lib.hid (fun (w1 : World) (hgrow : ((wr.alloc (.cells #[.int .i64 (nth ks (2 * k + 1)), .int .i64 g0, .int .i64 g1, .slice A2 n2 d2, .slice A3 n3 d3, .pointer none] 90)).alloc (.cells #[.pointer (some ⟨wr.heap.size, 0, none⟩)] 88)).drew.grownBy w1 u5.ownBlock) =>
        have hb1 : Below W0.heap.size W0 w1 := (hF.below.trans (hbel2.mono hwsz)).grown hgrow (Nat.le_trans hwsz hsz2) (fun j hj => (hF.row.lt j hj).1)
        And.intro hb1 (HR.out w1 k hb1 hlt))
      go_wp2_with (at_builtin; refine wpList_append_own _ rfl _ _ 125 rfl W0.heap.size 88 i0 (.pointer none) 1 8 und125 hinf hz0 hz1 hz2 rfl (by decide) _ _ _ rfl hrow ⟨wr.heap.size + 1, 0, none⟩ 1 1 [.pointer (some ⟨wr.heap.size, 0, none⟩)] rfl rfl hnews (by simp [Value.oneCell']) hml (by omega) (by omega) ?_; intro v' w1 hown' hgrow _; obtain ⟨hb1, z2, _, z4, _⟩ := HZ.out w1 hgrow)
      have hgrow' := hgrow
      change World.grownBy _ w1 u5.ownBlock at hgrow'
      have hFm := hF.more rfl (o := .cells #[.pointer (some ⟨wr.heap.size, 0, none⟩)] 88) hown' (by rw [S0.out, S1.out, S2.out, S3.out]; exact hgrow')
      have HF := Lib.hid hFm
      clear hgrow hgrow' hFm hF hown' hrow hnews hbel2 hsz2 r2 r3 r4 r5 r6 r7 r8 r9 hb1
      go_roundw
      case rel => exact ⟨k + 1, bs ++ [wr.heap.size], by omega, by go_num, HF.out⟩
      case measure => simp [intOf]; omega
    · have hkq : k = q := by omega
      subst hkq
      have r2 : wr.cell? ⟨W.heap.size, 2, none⟩ = some (.slice (some ⟨bk, ok, none⟩) (2 * k) ck) := (hF.below.cell (p := ⟨W.heap.size, 2, none⟩) HB.out).trans HC2.out
      have hlt' : ¬ 2 * (k : Int) + 1 < 2 * (k : Int) := by omega
      obtain ⟨kp, rfl⟩ := hF.lk.shape ⟨_, rfl⟩
      obtain ⟨gg, cap, rfl⟩ : ∃ g cap, u5 = .slice (some ⟨g, 0, none⟩) k cap := by
        rcases hF.row.2 with ⟨_, h0⟩ | ⟨g, cap, cur, h, _⟩
        · exact absurd h0 (by omega)
        · exact ⟨g, cap, h⟩
      have HK := Lib.hid hk
      clear hk
      have HF := Lib.hid hF
      clear hF
      go_wp2_with fail
      go_loopw [48] (fun i wr2 => ∃ (j : Nat), j ≤ k ∧ i = .int .i64 (j : Int) ∧ FixIn W0 wr2 ks G0 G1 G2 G3 (.pointer pk) k (fun i => if i < j then .pointer kp else .pointer none) bs (.slice (some ⟨gg, 0, none⟩) k cap) (.pointer kp)) (fun i _ => k + 1 - (intOf i).toNat)
      case atStart => exact ⟨0, by omega, rfl, by simpa using HF.out⟩
      case round =>
        obtain ⟨j, hj, rfl, hF⟩ := hrel
        by_cases hlt2 : j < k
        · have hjb : j < bs.length := by rw [hF.len]; exact hlt2
          have hcell : wr.cell? ⟨gg, j, none⟩ = some (.pointer (some ⟨bs[j], 0, none⟩)) := by
            have := World.ownsRow.cells hF.row (g := gg) rfl j (.pointer (some ⟨bs[j], 0, none⟩)) (by simp [List.getElem?_eq_getElem hjb])
            have ha : (⟨gg, 0, none⟩ : Addr).add j = ⟨gg, j, none⟩ := by unfold Addr.add; split <;> simp_all
            rwa [ha] at this
          have hfj := hF.fnb j hjb
          have hc5 : wr.cell? ⟨bs[j], 5, none⟩ = some (.pointer none) := by simp [World.cell?, hfj]
          have hz5 : wr.frozen? ⟨bs[j], 5, none⟩ = false := by simp [World.frozen?, hfj]
          have HN := Lib.hid (hF.know hjb (.pointer kp))
          generalize bs[j] = bj at *
          clear hfj hF
          have hj0 : (0 : Int) ≤ (j : Int) := by omega
          have hjk : (j : Int) < (k : Int) := by omega
          go_wp2_with fail
          go_roundw
          case rel =>
            refine ⟨j + 1, by omega, by go_num, ?_⟩
            have := HN.out
            have he : (fun i : Nat => if i = j then Value.pointer kp else if i < j then .pointer kp else .pointer none) = fun i => if i < j + 1 then Value.pointer kp else .pointer none := by
              funext i
              by_cases h1 : i = j
              · simp [h1]
              · by_cases h2 : i < j
                · simp [h1, h2, show i < j + 1 by omega]
                · simp [h1, h2, show ¬ i < j + 1 by omega]
            rwa [he] at this
          case measure => simp [intOf]; omega
        · have hjk : j = k := by omega
          subst hjk
          have HF := Lib.hid hF
          clear hF
          go_wp2_with fail
          go_ret
          refine HE.out _ bs (.slice (some ⟨gg, 0, none⟩) j cap) kp ?_
          have hF := HF.out
          refine ⟨hF.below, hF.len, hF.lo, hF.nodup, fun i hi => ?_, hF.row, hF.lk⟩
          have := hF.fnb i hi
          rw [hF.len] at hi
          simpa [hi] using this
end Go.Proofs.YtnolhcdfknjncaaDoor
