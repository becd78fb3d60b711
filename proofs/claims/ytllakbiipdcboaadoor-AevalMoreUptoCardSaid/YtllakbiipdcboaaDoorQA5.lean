/-
  3 texts of this seat in one: PF2 PH9 PH10.
-/
import Derived.Test.YtllakbiipdcboaaDoorQA4
/-
  The evaluator of terms: functions that know one another: the walk.
-/
set_option linter.unusedVariables false
set_option linter.unusedSimpArgs false
namespace Go.Proofs.YtllakbiipdcboaaDoor
open Go.RowKit

theorem infoFn : (Tryd.prog.info? 94).map (fun i => (i.zero, i.size, i.bytes)) = some (some (.pointer none), 1, 8) := by kernel_rfl

theorem und125 : Tryd.prog.underlying 93 = some (.slice 94) := by kernel_rfl

def FixPost (rb B : Nat) (p : FlatP) (inp : List Int) (fuel : Nat) (s : FSt) (m : Mem) (W : World) (ks : List Int) (bl : List Anf) (e : PEnv) (en : Ending) (W' : World) : Prop :=
  ∃ m' gp, en = .returned (.pointer gp) ∧ Good rb B p inp fuel { s with made := s.made ++ groupMade (groupEnv ks s.made.length e) ks bl } m' W' ∧ Evo rb m m' W W' ∧ EnvIn rb m' W' (groupEnv ks s.made.length e) (.pointer gp)

set_option maxRecDepth 100000 in
set_option maxHeartbeats 4000000 in
theorem fixed_any {rb B : Nat} {p : FlatP} {inp : List Int} {fuel : Nat} {s : FSt} {m : Mem} {W : World} (hg : Good rb B p inp fuel s m W) (n0 : Int) {ks : List Int} {cs : List Anf} {Aa Ak Ac : Option Addr} {na ca ck cc : Nat} (hks : IntsIn W.heap.size W Ak ks) (hck : ks.length ≤ ck) (hbl : BlocksIn B W Ac cs) (hcc : cs.length ≤ cc)
    (hwt : ∀ c ∈ cs, WfA p.funs.length c) {q : Nat} (hq : ks.length = 2 * q) (hcl : cs.length = q) (hq1 : 1 ≤ q) {e : PEnv} {ge : Value} (he : EnvIn rb m W e ge) :
    Calls Tryd.prog 27 #[.agg #[.int .i64 7, .int .i64 n0, .slice Aa na ca, .slice Ak ks.length ck, .slice Ac cs.length cc], ge] W (FixPost rb B p inp fuel s m W ks cs e) := by
  obtain ⟨b, o, G0, G1, G2, hK⟩ := hbl.blk
  obtain ⟨pk, rfl⟩ := he.shape
  obtain ⟨bk, ok, rfl, hbk, hkc⟩ := hks.at_ (by omega)
  have hlen64 : q ≤ 10000000000000 := by have := hks.1; omega
  obtain ⟨rfl, hbB⟩ := hK.hA (by omega)
  have hBs := hg.Bs
  have HCL := Lib.hid hcl
  rw [hq, hcl]
  obtain ⟨W0, hW0⟩ : ∃ W0, W.alloc (.cells #[.int .i64 7, .int .i64 n0, .slice Aa na ca, .slice (some ⟨bk, ok, none⟩) (2 * q) ck, .slice (some ⟨b, o, none⟩) q cc] 43) = W0 := ⟨_, rfl⟩
  have hb0 : Below W.heap.size W W0 := by rw [← hW0]; exact (Below.refl _ _).alloc (Nat.le_refl _) _
  have hsz0 : W0.heap.size = W.heap.size + 1 := by rw [← hW0]; simp
  have hc2 : W0.cell? ⟨W.heap.size, 3, none⟩ = some (.slice (some ⟨bk, ok, none⟩) (2 * q) ck) := by rw [← hW0, World.cell?_alloc_at _ _ _ _ rfl]; rfl
  have hc3 : W0.cell? ⟨W.heap.size, 4, none⟩ = some (.slice (some ⟨b, o, none⟩) q cc) := by rw [← hW0, World.cell?_alloc_at _ _ _ _ rfl]; rfl
  -- what is read in a round
  have HR := Lib.hid (fun (V : World) (k : Nat) (hV : Below W0.heap.size W0 V) (hk : k < q) =>
    (show V.cell? ⟨W.heap.size, 3, none⟩ = some (.slice (some ⟨bk, ok, none⟩) (2 * q) ck) ∧ V.cell? ⟨W.heap.size, 4, none⟩ = some (.slice (some ⟨b, o, none⟩) q cc) ∧
        V.cell? ⟨bk, ok + 2 * k, none⟩ = some (.int .i64 (nth ks (2 * k))) ∧ V.cell? ⟨bk, ok + (2 * k + 1), none⟩ = some (.int .i64 (nth ks (2 * k + 1))) ∧
        V.cell? ⟨b, o + k * 3, none⟩ = some (G0 k) ∧ V.cell? ⟨b, o + k * 3 + 1, none⟩ = some (G1 k) ∧ V.cell? ⟨b, o + k * 3 + 2, none⟩ = some (G2 k) from
      have hbb : Below B W V := (hb0.mono hBs).trans (hV.mono (by omega))
      have hbw : Below W.heap.size W V := hb0.trans (hV.mono (by omega))
      ⟨(hV.cell (p := ⟨_, _, none⟩) (by show W.heap.size < _; omega)).trans hc2, (hV.cell (p := ⟨_, _, none⟩) (by show W.heap.size < _; omega)).trans hc3,
       (hbw.cell (p := ⟨_, _, none⟩) hbk).trans (hkc _ (by omega)), (hbw.cell (p := ⟨_, _, none⟩) hbk).trans (hkc _ (by omega)),
       (hbb.cell (p := ⟨_, _, none⟩) hbB).trans (hK.c0 k (by omega)), (hbb.cell (p := ⟨_, _, none⟩) hbB).trans (hK.c1 k (by omega)), (hbb.cell (p := ⟨_, _, none⟩) hbB).trans (hK.c2 k (by omega))⟩))
  have HE := Lib.hid (fun (W' : World) (bs : List Nat) (v : Value) (gp : Option Addr) (h : FixIn W0 W' ks G0 G1 G2 (.pointer pk) q (fun _ => .pointer gp) bs v (.pointer gp)) =>
    (show FixPost rb B p inp fuel s m W ks cs e (.returned (.pointer gp)) W' from by
      obtain ⟨g1, g2, g3⟩ := hg.fixed hb0 hK hwt hq (by omega) he h
      exact ⟨_, gp, rfl, g1, g2, g3⟩))
  have HG := Lib.hid (fun (k : Nat) (hk : k < q) => (hK.hsub k (by omega)).shape)
  have HC2 := Lib.hid hc2
  have HB := Lib.hid (show W.heap.size < W0.heap.size by omega)
  obtain ⟨i0, hinf, hz0, hz1, hz2⟩ := info_parts infoFn
  clear hc2 hc3 hkc hK hks hbl hg he hwt hb0 hsz0 hcl hq
  go_enter Tryd.func27, Tryd.ntmps27
  go_wp2_with fail
  go_loopw [6, 5, 1] (fun i l kn wr => ∃ (k : Nat) (bs : List Nat), k ≤ q ∧ i = .int .i64 (2 * (k : Int)) ∧ FixIn W0 wr ks G0 G1 G2 (.pointer pk) k (fun _ => .pointer none) bs l kn) (fun i _ _ _ => 2 * q + 2 - (intOf i).toNat)
  case atStart => exact ⟨0, [], by omega, rfl, FixIn.start _ _ _ _ _ _ _⟩
  case round =>
    obtain ⟨k, bs, hk, rfl, hF⟩ := hrel
    by_cases hlt : k < q
    · obtain ⟨r2, r3, r4, r5, r6, r7, r8⟩ := HR.out wr k hF.below hlt
      obtain ⟨kp, rfl⟩ := hF.lk.shape ⟨_, rfl⟩
      have hlt' : 2 * (k : Int) + 1 < 2 * (q : Int) := by omega
      have hlt2 : (k : Int) < (q : Int) := by omega
      have hq2 : (2 * (k : Int)).tdiv 2 = (k : Int) := by rw [Int.mul_comm]; exact Int.mul_tdiv_cancel _ (by decide)
      have hw1 : IntKind.i64.wrap (2 * (k : Int) + 1) = 2 * (k : Int) + 1 := by rw [IntKind.wrap_i64]; omega
      have hw2 : IntKind.i64.wrap (k : Int) = (k : Int) := by rw [IntKind.wrap_i64]; omega
      have hge : (0 : Int) ≤ 2 * (k : Int) + 1 := by omega
      have hge2 : (0 : Int) ≤ 2 * (k : Int) := by omega
      have hlt3 : 2 * (k : Int) < 2 * (q : Int) := by omega
      have hn2 : (2 * (k : Int)).toNat = 2 * k := by omega
      have hn1 : (2 * (k : Int) + 1).toNat = 2 * k + 1 := by omega
      have hml : k + 1 ≤ maxLen := by unfold maxLen; omega
      obtain ⟨A2, n2, d2, g0, g1, hsh⟩ := HG.out k hlt
      simp only [Array.mk.injEq, List.cons.injEq, and_true] at hsh
      obtain ⟨s0, s1, s2⟩ := hsh
      rw [s0] at r6
      rw [s1] at r7
      rw [s2] at r8
      have S0 := Lib.hid s0
      have S1 := Lib.hid s1
      have S2 := Lib.hid s2
      clear s0 s1 s2
      have HS := Lib.hid (fun (V : World) (hV : Below wr.heap.size wr V) => (show V.cell? ⟨W.heap.size, 3, none⟩ = some (.slice (some ⟨bk, ok, none⟩) (2 * q) ck) ∧ V.cell? ⟨W.heap.size, 4, none⟩ = some (.slice (some ⟨b, o, none⟩) q cc) ∧
        V.cell? ⟨bk, ok + (2 * k + 1), none⟩ = some (.int .i64 (nth ks (2 * k + 1))) ∧
        V.cell? ⟨b, o + k * 3, none⟩ = some (.slice A2 n2 d2) ∧ V.cell? ⟨b, o + k * 3 + 1, none⟩ = some (.bool g0) ∧ V.cell? ⟨b, o + k * 3 + 2, none⟩ = some (.int .i64 g1) from
        ⟨cell_behind hV r2, cell_behind hV r3, cell_behind hV r5, cell_behind hV r6, cell_behind hV r7, cell_behind hV r8⟩))
      go_wp2_with fail
      go_region_held2 (fun V => V.cell? ⟨W.heap.size, 3, none⟩ = some (.slice (some ⟨bk, ok, none⟩) (2 * q) ck) ∧ V.cell? ⟨W.heap.size, 4, none⟩ = some (.slice (some ⟨b, o, none⟩) q cc) ∧
        V.cell? ⟨bk, ok + (2 * k + 1), none⟩ = some (.int .i64 (nth ks (2 * k + 1))) ∧
        V.cell? ⟨b, o + k * 3, none⟩ = some (.slice A2 n2 d2) ∧ V.cell? ⟨b, o + k * 3 + 1, none⟩ = some (.bool g0) ∧ V.cell? ⟨b, o + k * 3 + 2, none⟩ = some (.int .i64 g1))
        (first | exact HS.out _ (Below.refl _ _).drew | exact HS.out _ ((Below.refl _ _).drew.alloc (Nat.le_refl _) _)) (fail)
      have hbel2 : Below wr.heap.size wr ((wr.alloc (.cells #[.int .i64 (nth ks (2 * k + 1)), .slice A2 n2 d2, .bool g0, .int .i64 g1, .pointer none] 96)).alloc (.cells #[.pointer (some ⟨wr.heap.size, 0, none⟩)] 94)).drew := (((Below.refl _ _).alloc (Nat.le_refl _) _).alloc (by rw [World.size_alloc]; exact Nat.le_succ _) _).drew
      have hsz2 : wr.heap.size ≤ ((wr.alloc (.cells #[.int .i64 (nth ks (2 * k + 1)), .slice A2 n2 d2, .bool g0, .int .i64 g1, .pointer none] 96)).alloc (.cells #[.pointer (some ⟨wr.heap.size, 0, none⟩)] 94)).drew.heap.size := hbel2.size
      have hrow : ((wr.alloc (.cells #[.int .i64 (nth ks (2 * k + 1)), .slice A2 n2 d2, .bool g0, .int .i64 g1, .pointer none] 96)).alloc (.cells #[.pointer (some ⟨wr.heap.size, 0, none⟩)] 94)).drew.ownsRow W0.heap.size 94 1 u5 k (bs.map fun b => .pointer (some ⟨b, 0, none⟩)) := ((hF.row.alloc _).alloc _).drew
      have hnews : ∀ j u, [Value.pointer (some ⟨wr.heap.size, 0, none⟩)][j]? = some u → ((wr.alloc (.cells #[.int .i64 (nth ks (2 * k + 1)), .slice A2 n2 d2, .bool g0, .int .i64 g1, .pointer none] 96)).alloc (.cells #[.pointer (some ⟨wr.heap.size, 0, none⟩)] 94)).drew.cell? ((⟨wr.heap.size + 1, 0, none⟩ : Addr).add j) = some u := by
        have := cell_one_new (wr.alloc (.cells #[.int .i64 (nth ks (2 * k + 1)), .slice A2 n2 d2, .bool g0, .int .i64 g1, .pointer none] 96)) (.pointer (some ⟨wr.heap.size, 0, none⟩)) 94
        rw [World.size_alloc] at this
        exact this
      have hwsz := hF.below.size
      have HZ := Lib.hid (fun (w1 : World) (hgrow : ((wr.alloc (.cells #[.int .i64 (nth ks (2 * k + 1)), .slice A2 n2 d2, .bool g0, .int .i64 g1, .pointer none] 96)).alloc (.cells #[.pointer (some ⟨wr.heap.size, 0, none⟩)] 94)).drew.grownBy w1 u5.ownBlock) =>
        have hb1 : Below W0.heap.size W0 w1 := (hF.below.trans (hbel2.mono hwsz)).grown hgrow (Nat.le_trans hwsz hsz2) (fun j hj => (hF.row.lt j hj).1)
        And.intro hb1 (HR.out w1 k hb1 hlt))
      go_wp2_with (at_builtin; refine wpList_append_own _ rfl _ _ 93 rfl W0.heap.size 94 i0 (.pointer none) 1 8 und125 hinf hz0 hz1 hz2 rfl (by decide) _ _ _ rfl hrow ⟨wr.heap.size + 1, 0, none⟩ 1 1 [.pointer (some ⟨wr.heap.size, 0, none⟩)] rfl rfl hnews (by simp [Value.oneCell']) hml (by omega) (by omega) ?_; intro v' w1 hown' hgrow _; obtain ⟨hb1, z2, _, z4, _⟩ := HZ.out w1 hgrow)
      have hgrow' := hgrow
      change World.grownBy _ w1 u5.ownBlock at hgrow'
      have hFm := hF.more rfl (o := .cells #[.pointer (some ⟨wr.heap.size, 0, none⟩)] 94) hown' (by rw [S0.out, S1.out, S2.out]; exact hgrow')
      have HF := Lib.hid hFm
      clear hgrow hgrow' hFm hF hown' hrow hnews hbel2 hsz2 r2 r3 r4 r5 r6 r7 r8 hb1
      go_roundw
      case rel => exact ⟨k + 1, bs ++ [wr.heap.size], by omega, by go_num, HF.out⟩
      case measure => simp [intOf]; omega
    · have hkq : k = q := by omega
      subst hkq
      have r2 : wr.cell? ⟨W.heap.size, 3, none⟩ = some (.slice (some ⟨bk, ok, none⟩) (2 * k) ck) := (hF.below.cell (p := ⟨W.heap.size, 3, none⟩) HB.out).trans HC2.out
      have hlt' : ¬ 2 * (k : Int) + 1 < 2 * (k : Int) := by omega
      obtain ⟨kp, rfl⟩ := hF.lk.shape ⟨_, rfl⟩
      obtain ⟨gg, cap, rfl⟩ : ∃ g cap, u5 = .slice (some ⟨g, 0, none⟩) k cap := by
        rcases hF.row.2 with ⟨_, h0⟩ | ⟨g, cap, cur, h, _⟩
        · exact absurd h0 (by omega)
        · exact ⟨g, cap, h⟩
      have HK := Lib.hid hk
      clear hk
      have HF := Lib.hid hF
      clear hF
      go_wp2_with fail
      go_loopw [48] (fun i wr2 => ∃ (j : Nat), j ≤ k ∧ i = .int .i64 (j : Int) ∧ FixIn W0 wr2 ks G0 G1 G2 (.pointer pk) k (fun i => if i < j then .pointer kp else .pointer none) bs (.slice (some ⟨gg, 0, none⟩) k cap) (.pointer kp)) (fun i _ => k + 1 - (intOf i).toNat)
      case atStart => exact ⟨0, by omega, rfl, by simpa using HF.out⟩
      case round =>
        obtain ⟨j, hj, rfl, hF⟩ := hrel
        by_cases hlt2 : j < k
        · have hjb : j < bs.length := by rw [hF.len]; exact hlt2
          have hcell : wr.cell? ⟨gg, j, none⟩ = some (.pointer (some ⟨bs[j], 0, none⟩)) := by
            have := World.ownsRow.cells hF.row (g := gg) rfl j (.pointer (some ⟨bs[j], 0, none⟩)) (by simp [List.getElem?_eq_getElem hjb])
            have ha : (⟨gg, 0, none⟩ : Addr).add j = ⟨gg, j, none⟩ := by unfold Addr.add; split <;> simp_all
            rwa [ha] at this
          have hfj := hF.fnb j hjb
          have hc5 : wr.cell? ⟨bs[j], 4, none⟩ = some (.pointer none) := by simp [World.cell?, hfj]
          have hz5 : wr.frozen? ⟨bs[j], 4, none⟩ = false := by simp [World.frozen?, hfj]
          have HN := Lib.hid (hF.know hjb (.pointer kp))
          generalize bs[j] = bj at *
          clear hfj hF
          have hj0 : (0 : Int) ≤ (j : Int) := by omega
          have hjk : (j : Int) < (k : Int) := by omega
          go_wp2_with fail
          go_roundw
          case rel =>
            refine ⟨j + 1, by omega, by go_num, ?_⟩
            have := HN.out
            have he : (fun i : Nat => if i = j then Value.pointer kp else if i < j then .pointer kp else .pointer none) = fun i => if i < j + 1 then Value.pointer kp else .pointer none := by
              funext i
              by_cases h1 : i = j
              · simp [h1]
              · by_cases h2 : i < j
                · simp [h1, h2, show i < j + 1 by omega]
                · simp [h1, h2, show ¬ i < j + 1 by omega]
            rwa [he] at this
          case measure => simp [intOf]; omega
        · have hjk : j = k := by omega
          subst hjk
          have HF := Lib.hid hF
          clear hF
          go_wp2_with fail
          go_ret
          refine HE.out _ bs (.slice (some ⟨gg, 0, none⟩) j cap) kp ?_
          have hF := HF.out
          refine ⟨hF.below, hF.len, hF.lo, hF.nodup, fun i hi => ?_, hF.row, hF.lk⟩
          have := hF.fnb i hi
          rw [hF.len] at hi
          simpa [hi] using this
end Go.Proofs.YtllakbiipdcboaaDoor

/-
  The flat evaluator: what is raised is caught.
-/
set_option linter.unusedVariables false
set_option linter.unusedSimpArgs false
namespace Go.Proofs.YtllakbiipdcboaaDoor
open Go.RowKit

/-! ### a store into a variable that no value of the run lies in -/
structure Odd (rb B : Nat) (m : Mem) (W : World) (b : Nat) (T : TypeId) (x : Value) : Prop where
  lies : W.heap[b]? = some (.cells #[x] T (0, 0))
  ty : T = 58 ∨ T = 4
  odd : ∀ U y, x ≠ .iface U y
  still : ¬ m.mut rb b
  lo : B ≤ b
section
variable {rb B : Nat} {p : FlatP} {inp : List Int} {fuel : Nat} {s : FSt} {m : Mem} {W : World} {b : Nat} {T : TypeId} {x : Value}
theorem Odd.heap (h : Odd rb B m W b T x) (v : Value) {k : Nat} (hk : k ≠ b) : (W.setCell ⟨b, 0, none⟩ v).heap[k]? = W.heap[k]? := Below.heap_setCell W _ _ k hk
theorem Odd.at_ (h : Odd rb B m W b T x) (v : Value) {k : Nat} {cs : Array Value} {U : TypeId} {fr : Nat × Nat} (hU : U ≠ 58 ∧ U ≠ 4) (ha : At rb m W k (.cells cs U fr)) : At rb m (W.setCell ⟨b, 0, none⟩ v) k (.cells cs U fr) := by
  refine ⟨(h.heap v ?_).trans ha.1, ha.2⟩
  rintro rfl
  have := h.lies.symm.trans ha.1
  simp only [Option.some.injEq, Obj.cells.injEq] at this
  rcases h.ty with h1 | h1
  · exact hU.1 (this.2.1.symm.trans h1)
  · exact hU.2 (this.2.1.symm.trans h1)
theorem Odd.rep (h : Odd rb B m W b T x) (v : Value) {p : PV} {g : Value} (hr : RepV rb m W p g) : RepV rb m (W.setCell ⟨b, 0, none⟩ v) p g := by
  induction hr with
  | int n => exact .int n
  | @blk tag kids bb g cap F hb hg hgm hl hp h8 hc hk ih =>
    refine .blk (h.at_ v (by decide) hb) (by simpa [World.setCell] using hg) hgm hl hp h8 (fun j hj => ?_) ih
    refine (cell_of_heap (h.heap v ?_) j).trans (hc j hj)
    rintro rfl
    obtain ⟨U, y, hF⟩ := (hk 0 (by omega)).shape
    have h0 := hc 0 (by omega)
    simp [World.cell?, h.lies, hF] at h0
    exact h.odd _ _ h0
  | fn h => exact .fn h
  | ref h => exact .ref h
theorem Odd.env (h : Odd rb B m W b T x) (v : Value) {e : PEnv} {g : Value} (hr : EnvIn rb m W e g) : EnvIn rb m (W.setCell ⟨b, 0, none⟩ v) e g := by
  induction hr with
  | nil => exact .nil
  | cons hb hv _ ih => exact .cons (h.at_ v (by decide) hb) (h.rep v hv) ih
theorem Odd.good (h : Odd rb B m W b T x) (v : Value) (hg : Good rb B p inp fuel s m W) : Good rb B p inp fuel s m (W.setCell ⟨b, 0, none⟩ v) := by
  have hst : Below B W (W.setCell ⟨b, 0, none⟩ v) := ⟨rfl, rfl, rfl, by simp [World.setCell], fun k hk => h.heap v (by have := h.lo; omega)⟩
  obtain ⟨Ai, ci, hr, hi, hci⟩ := hg.run
  refine ⟨by simpa [World.setCell] using hg.Bs, hg.rbB, hg.left, hg.fuelB, hg.bnd, ⟨Ai, ci, (h.heap v (fun e => h.still (.inl e.symm))).trans hr, hi.below hst, hci⟩, ?_, hg.falen, ?_, hg.calen, ?_, hg.nodup, hg.rbca, hg.rbo, hg.oca, hg.caB⟩
  · refine hg.out.kept (row := some b) ⟨rfl, rfl, rfl, by simp [World.setCell], fun i hi hne => h.heap v (fun e => hne (by rw [e]))⟩ ?_
    cases ho : m.vo.ownBlock with
    | none => exact .inl rfl
    | some k => exact .inr fun e => h.still (.inr (.inl (ho.trans (by simpa using e))))
  · intro i hi'
    obtain ⟨b', a0, a1, a2, ge, h1, h2, h3, h4, h5⟩ := hg.fns i hi'
    exact ⟨b', a0, a1, a2, ge, h1, h.at_ v (by decide) h2, h3.kept hst, h4, h.env v h5⟩
  · intro i hi'
    obtain ⟨b', gv, h1, h2, h3⟩ := hg.cells i hi'
    refine ⟨b', gv, h1, (h.heap v ?_).trans h2, h.rep v h3⟩
    rintro rfl
    exact h.still (.inr (.inr (List.mem_of_getElem? h1)))
theorem Odd.other (h : Odd rb B m W b T x) (v : Value) {c : Nat} {U : TypeId} {y : Value} (hc : Odd rb B m W c U y) (hne : c ≠ b) : Odd rb B m (W.setCell ⟨b, 0, none⟩ v) c U y :=
  ⟨(h.heap v hne).trans hc.lies, hc.ty, hc.odd, hc.still, hc.lo⟩
end
/-! ### the deferred closure -/
theorem caught1_idle (a b : Addr) (w : World) :
    CallsD Tryd.prog 59 #[.pointer (some a), .pointer (some b)] .returning w fun e u' w' => e = .returned (.tuple #[]) ∧ u' = .returning ∧ w' = w := by
  refine callsD_of_wpS Tryd.func59 rfl fun c₀ cs hu => ?_
  apply wpS_seq
  apply wpS_region
  simp [wpOpsS, go_sem, recoverD, hu, Tryd.ntmps59, Exit.thenS]
  refine wpS_of_wp ?_
  go_wp2_with fail
  cases c₀
  simp_all [bodyPostS, results, Tryd.results59]

theorem caught1_raised (ab bb : Nat) (T : TypeId) (y : Value) (older : List PanicEntry) (w : World) (ha : w.cell? ⟨ab, 0, none⟩ = some .nilIface) (hb : w.cell? ⟨bb, 0, none⟩ = some (.bool false)) (fa : w.frozen? ⟨ab, 0, none⟩ = false) (fb : w.frozen? ⟨bb, 0, none⟩ = false) (hab : ab ≠ bb) :
    CallsD Tryd.prog 59 #[.pointer (some ⟨ab, 0, none⟩), .pointer (some ⟨bb, 0, none⟩)] (.panicking ({ v := .iface 70 (.agg #[.iface T y]), recovered := false } :: older)) w
      fun e u' w' => e = .returned (.tuple #[]) ∧ u' = .panicking ({ v := .iface 70 (.agg #[.iface T y]), recovered := true } :: older) ∧ w' = ((w.alloc (.cells #[.iface T y] 70)).setCell ⟨ab, 0, none⟩ (.iface T y)).setCell ⟨bb, 0, none⟩ (.bool true) := by
  have hal := World.block_lt_of_cell? _ _ ha
  have hbl := World.block_lt_of_cell? _ _ hb
  have hn := World.new_ne _ _ ha
  have hn' := World.new_ne _ _ hb
  refine callsD_of_wpS Tryd.func59 rfl fun c₀ cs hu => ?_
  apply wpS_seq
  apply wpS_region
  simp [wpOpsS, go_sem, recoverD, hu, Tryd.ntmps59, Exit.thenS]
  refine wpS_of_wp (Code.wp_mono (Q := fun e a w' => e = .normal ∧ a.defers = [] ∧ w' = ((w.alloc (.cells #[.iface T y] 70)).setCell ⟨ab, 0, none⟩ (.iface T y)).setCell ⟨bb, 0, none⟩ (.bool true)) ?_ ?_)
  · rintro e a w' ⟨rfl, h1, rfl⟩
    cases c₀
    simp_all [bodyPostS, results, Tryd.results59]
  simp only [Array.replicate_succ, Array.replicate_zero, List.push_toArray, List.setIfInBounds_toArray, List.set_cons_zero, List.set_cons_succ, List.append_toArray, List.nil_append, List.cons_append]
  clear hu
  go_wp2_with fail

theorem caught1_stop (a b : Addr) (x : Value) (older : List PanicEntry) (w : World) :
    CallsD Tryd.prog 59 #[.pointer (some a), .pointer (some b)] (.panicking ({ v := .iface 68 x, recovered := false } :: older)) w
      fun e u' w' => e = .panicked [{ v := .iface 68 x, recovered := false }] ∧ u' = .panicking ({ v := .iface 68 x, recovered := true } :: older) ∧ w' = w := by
  refine callsD_of_wpS Tryd.func59 rfl fun c₀ cs hu => ?_
  apply wpS_seq
  apply wpS_region
  simp [wpOpsS, go_sem, recoverD, hu, Tryd.ntmps59, Exit.thenS]
  refine wpS_of_wp (Code.wp_mono (Q := fun e a w' => e = .panic [{ v := .iface 68 x, recovered := false }] ∧ a.defers = [] ∧ w' = w) ?_ ?_)
  · rintro e a w' ⟨rfl, h1, rfl⟩
    cases c₀
    simp_all [bodyPostS, results, Tryd.results59]
  simp only [Array.replicate_succ, Array.replicate_zero, List.push_toArray, List.setIfInBounds_toArray, List.set_cons_zero, List.set_cons_succ, List.append_toArray, List.nil_append, List.cons_append]
  clear hu
  go_wp2_with fail

/-- how a call ends that is watched -/
inductive CaughtPost (rb B : Nat) (p : FlatP) (inp : List Int) (fuel : Nat) (m : Mem) (W : World) : FOut → Ending → World → Prop
  | val {v : PV} {s : FSt} {m' : Mem} {W' : World} {g : Value} (hk : Evo rb m m' W W') (hg : Good rb B p inp fuel s m' W') (hv : RepV rb m' W' v g) : CaughtPost rb B p inp fuel m W (.val v, s) (.returned (.tuple #[g, .bool false])) W'
  | raised {v : PV} {s : FSt} {m' : Mem} {W' : World} {g : Value} (hk : Evo rb m m' W W') (hg : Good rb B p inp fuel s m' W') (hv : RepV rb m' W' v g) : CaughtPost rb B p inp fuel m W (.raised v, s) (.returned (.tuple #[g, .bool true])) W'
  | stuck {s : FSt} {m' : Mem} {W' : World} {ch : List PanicEntry} (hk : Evo rb m m' W W') (hg : Good rb B p inp fuel s m' W') (hth : Thrown 68 (.agg #[.int .i64 4]) ch) : CaughtPost rb B p inp fuel m W (.stuck, s) (.panicked ch) W'
  | cut {s : FSt} {m' : Mem} {W' : World} {ch : List PanicEntry} (hk : Evo rb m m' W W') (hg : Good rb B p inp fuel s m' W') (hth : Thrown 68 (.agg #[.int .i64 3]) ch) : CaughtPost rb B p inp fuel m W (.cut, s) (.panicked ch) W'

theorem settle_thrown {T : TypeId} {x : Value} {older : List PanicEntry} (h : ∀ p ∈ older, p.goexit = false) : settle (.panicking ({ v := .iface T x, recovered := true } :: older)) = .returning := by
  have : older.dropWhile (!·.goexit) = [] := by
    clear x
    induction older with
    | nil => rfl
    | cons a l ih => rw [List.dropWhile_cons_of_pos (by simp [h a (by simp)])]; exact ih (fun p hp => h p (by simp [hp]))
  simp [settle, this]
theorem Thrown.again {T : TypeId} {x : Value} {older : List PanicEntry} (h : ∀ p ∈ older, p.goexit = false) : Thrown T x ({ v := .iface T x, recovered := false } :: { v := .iface T x, recovered := true } :: older) :=
  ⟨_, rfl, fun p hp => by rcases List.mem_cons.1 hp with rfl | hp; rfl; exact h p hp⟩
set_option maxRecDepth 100000 in
set_option maxHeartbeats 2000000 in
theorem caught_any {rb B : Nat} {p : FlatP} {inp : List Int} {fuel n : Nat} (hok : BodyOk rb B p inp fuel n) (f : PV) (s : FSt) (m : Mem) (W : World) (gf : Value) (hf : RepV rb m W f gf) (hg : Good rb B p inp fuel s m W) (hn : s.left ≤ n) :
    Calls Tryd.prog 54 #[.pointer (some ⟨rb, 0, none⟩), gf] W (CaughtPost rb B p inp fuel m W (callF p.funs (evF p.funs inp n) f (.int 0) s)) := by
  obtain ⟨Tf, xf, rfl⟩ := hf.shape
  have hk1 : Evo rb m m W (W.alloc (.cells #[.nilIface] 58)) := Evo.alloc _ _ _ _
  have hg1 := hg.below ((Below.refl _ _).alloc (Nat.le_refl _) (.cells #[.nilIface] 58))
  have hk2 : Evo rb m m (W.alloc (.cells #[.nilIface] 58)) ((W.alloc (.cells #[.nilIface] 58)).alloc (.cells #[.bool false] 4)) := Evo.alloc _ _ _ _
  have hg2 := hg1.below ((Below.refl _ _).alloc (Nat.le_refl _) (.cells #[.bool false] 4))
  have hf2 := (hf.evo hk1).evo hk2
  have a1 := (at_new (fun k hk => hg.mutLt hk) #[.nilIface] 58).evo hk2
  have a2 : At rb m ((W.alloc (.cells #[.nilIface] 58)).alloc (.cells #[.bool false] 4)) (W.heap.size + 1) (.cells #[.bool false] 4) := by
    have := at_new (fun k hk => hg1.mutLt hk) #[.bool false] 4
    simpa using this
  have hBs := hg.Bs
  have HC := Lib.hid ((call_any hok f (.int 0) hf2 (.int 0) hg2 hn).mono fun e V h => (show EvPost rb B p inp fuel m ((W.alloc (.cells #[.nilIface] 58)).alloc (.cells #[.bool false] 4)) (callF p.funs (evF p.funs inp n) f (.int 0) s) e V from h))
  generalize callF p.funs (evF p.funs inp n) f (.int 0) s = o at HC ⊢
  have hW2 : Evo rb m m W ((W.alloc (.cells #[.nilIface] 58)).alloc (.cells #[.bool false] 4)) := hk1.trans hk2
  clear hok hk1 hk2 hg1 hg2 hf hf2
  go_enter_defers Tryd.func54, Tryd.ntmps54
  go_wp2_with fail
  refine HC.out.mono ?_
  have hne : W.heap.size ≠ W.heap.size + 1 := by omega
  have hne' : W.heap.size + 1 ≠ W.heap.size := by omega
  intro e V h
  cases h with
  | @val v s' m' _ g hk hg' hv =>
    have b1 := a1.evo hk
    have b2 := a2.evo hk
    have O1 : Odd rb B m' V W.heap.size 58 .nilIface := ⟨b1.1, .inl rfl, by intros; simp, b1.2, hBs⟩
    have O2 : Odd rb B m' V (W.heap.size + 1) 4 (.bool false) := ⟨b2.1, .inr rfl, by intros; simp, b2.2, by omega⟩
    have c1 := at_cell0 b1 (i := 0) rfl
    have c2 := at_cell0 b2 (i := 0) rfl
    have d1 := at_frozen b1 0
    have d2 := at_frozen b2 0
    obtain ⟨Tg, xg, rfl⟩ := hv.shape
    have HP : CaughtPost rb B p inp fuel m W (.val v, s') (.returned (.tuple #[.iface Tg xg, .bool false])) ((V.setCell ⟨W.heap.size, 0, none⟩ (.iface Tg xg)).setCell ⟨W.heap.size + 1, 0, none⟩ (.bool false)) :=
      .val (((hW2.trans hk).setNew (Nat.le_refl _) _ _).setNew (by omega) _ _) ((O1.other _ O2 hne').good _ (O1.good _ hg')) ((O1.other _ O2 hne').rep _ (O1.rep _ hv))
    have HP := Lib.hid HP
    simp only [List.getElem_toArray, List.getElem_cons_zero] at c1 c2
    clear b1 b2 O1 O2 hv hg' hk a1 a2 hW2 hg HC
    go_wp2_with fail
    refine leaves_cons (f := 59) (args := #[.pointer (some ⟨W.heap.size, 0, none⟩), .pointer (some ⟨W.heap.size + 1, 0, none⟩)]) (by simp) (by simp [go_sem]) ?_
    refine (caught1_idle _ _ _).mono ?_
    rintro e u' w'' ⟨rfl, rfl, rfl⟩
    simp [Leaves, settle, results, Tryd.results54, go_sem, *]
    try exact HP.out
  | @raised v s' m' _ g ch hk hg' hv hkey hth =>
    obtain ⟨older, rfl, hold⟩ := hth
    have b1 := a1.evo hk
    have b2 := a2.evo hk
    obtain ⟨Tg, xg, rfl⟩ := hv.shape
    have hal : Evo rb m' m' V (V.alloc (.cells #[.iface Tg xg] 70)) := Evo.alloc _ _ _ _
    have hga := hg'.below ((Below.refl _ _).alloc (Nat.le_refl _) (.cells #[.iface Tg xg] 70))
    have b1' := b1.evo hal
    have b2' := b2.evo hal
    have O1 : Odd rb B m' (V.alloc (.cells #[.iface Tg xg] 70)) W.heap.size 58 .nilIface := ⟨b1'.1, .inl rfl, by intros; simp, b1'.2, hBs⟩
    have O2 : Odd rb B m' (V.alloc (.cells #[.iface Tg xg] 70)) (W.heap.size + 1) 4 (.bool false) := ⟨b2'.1, .inr rfl, by intros; simp, b2'.2, by omega⟩
    have c1 := at_cell0 b1 (i := 0) rfl
    have c2 := at_cell0 b2 (i := 0) rfl
    have d1 := at_frozen b1 0
    have d2 := at_frozen b2 0
    have HP : CaughtPost rb B p inp fuel m W (.raised v, s') (.returned (.tuple #[.iface Tg xg, .bool true])) (((V.alloc (.cells #[.iface Tg xg] 70)).setCell ⟨W.heap.size, 0, none⟩ (.iface Tg xg)).setCell ⟨W.heap.size + 1, 0, none⟩ (.bool true)) :=
      .raised ((((hW2.trans hk).trans hal).setNew (Nat.le_refl _) _ _).setNew (by omega) _ _) ((O1.other _ O2 hne').good _ (O1.good _ hga)) ((O1.other _ O2 hne').rep _ (O1.rep _ (hv.evo hal)))
    have HP := Lib.hid HP
    have l1 := World.block_lt_of_cell? _ _ c1
    have l2 := World.block_lt_of_cell? _ _ c2
    simp only [List.getElem_toArray, List.getElem_cons_zero] at c1 c2
    refine leaves_cons (f := 59) (args := #[.pointer (some ⟨W.heap.size, 0, none⟩), .pointer (some ⟨W.heap.size + 1, 0, none⟩)]) (by simp) (by simp [go_sem]) ?_
    refine (caught1_raised _ _ _ _ _ _ c1 c2 d1 d2 hne).mono ?_
    rintro e u' w'' ⟨rfl, rfl, rfl⟩
    show Leaves _ _ _ _ [] (settle _) _
    rw [settle_thrown hold]
    have k1 : (((V.alloc (.cells #[.iface Tg xg] 70)).setCell ⟨W.heap.size, 0, none⟩ (.iface Tg xg)).setCell ⟨W.heap.size + 1, 0, none⟩ (.bool true)).cell? ⟨W.heap.size, 0, none⟩ = some (.iface Tg xg) := by
      rw [World.cell?_setCell_far _ _ _ _ (by simp), World.cell?_setCell_same' _ _ _ (by rw [World.cell?_alloc_lt _ _ _ l1, c1]; rfl)]
    have k2 : (((V.alloc (.cells #[.iface Tg xg] 70)).setCell ⟨W.heap.size, 0, none⟩ (.iface Tg xg)).setCell ⟨W.heap.size + 1, 0, none⟩ (.bool true)).cell? ⟨W.heap.size + 1, 0, none⟩ = some (.bool true) := by
      rw [World.cell?_setCell_same' _ _ _ (by rw [World.cell?_setCell_far _ _ _ _ (by simp), World.cell?_alloc_lt _ _ _ l2, c2]; rfl)]
    simp [Leaves, results, Tryd.results54, go_sem, k1, k2]
    exact HP.out
  | @stuck s' m' _ ch hk hg' hth =>
    obtain ⟨older, rfl, hold⟩ := hth
    refine leaves_cons (f := 59) (args := #[.pointer (some ⟨W.heap.size, 0, none⟩), .pointer (some ⟨W.heap.size + 1, 0, none⟩)]) (by simp) (by simp [go_sem]) ?_
    refine (caught1_stop _ _ _ _ _).mono ?_
    rintro e u' w'' ⟨rfl, rfl, rfl⟩
    exact CaughtPost.stuck (hW2.trans hk) hg' (Thrown.again hold)
  | @cut s' m' _ ch hk hg' hth =>
    obtain ⟨older, rfl, hold⟩ := hth
    refine leaves_cons (f := 59) (args := #[.pointer (some ⟨W.heap.size, 0, none⟩), .pointer (some ⟨W.heap.size + 1, 0, none⟩)]) (by simp) (by simp [go_sem]) ?_
    refine (caught1_stop _ _ _ _ _).mono ?_
    rintro e u' w'' ⟨rfl, rfl, rfl⟩
    exact CaughtPost.cut (hW2.trans hk) hg' (Thrown.again hold)
end Go.Proofs.YtllakbiipdcboaaDoor

/-
  The flat evaluator: primitives.
-/
set_option linter.unusedVariables false
set_option linter.unusedSimpArgs false
namespace Go.Proofs.YtllakbiipdcboaaDoor
open Go.RowKit

section
variable {rb B : Nat} {p : FlatP} {inp : List Int} {fuel n : Nat} {s : FSt} {m : Mem} {W : World}

theorem prim_ref (hg : Good rb B p inp fuel s m W) {a : PV} {T : TypeId} {x : Value} (ha : RepV rb m W a (.iface T x)) {g cap : Nat} (c0 : W.cell? ⟨g, 0, none⟩ = some (.iface T x)) :
    Calls Tryd.prog 43 #[.pointer (some ⟨rb, 0, none⟩), .int .i64 10, .slice (some ⟨g, 0, none⟩) 1 cap] W (EvPost rb B p inp fuel m W (.val (.ref s.cells.length), { s with cells := s.cells ++ [a] })) := by
  obtain ⟨h1, h2, h3⟩ := hg.addCell ha
  have HP := Lib.hid (EvPost.val h2 h1 h3)
  clear h1 h2 h3 hg ha
  go_enter Tryd.func43, Tryd.ntmps43
  go_wp2_with fail
  go_ret
  exact HP.out

theorem prim_get_ref (hg : Good rb B p inp fuel s m W) {i b : Nat} (hb : m.ca[i]? = some b) {g cap : Nat} (c0 : W.cell? ⟨g, 0, none⟩ = some (.iface 112 (.pointer (some ⟨b, 0, none⟩)))) :
    Calls Tryd.prog 43 #[.pointer (some ⟨rb, 0, none⟩), .int .i64 11, .slice (some ⟨g, 0, none⟩) 1 cap] W (EvPost rb B p inp fuel m W (.val (s.cells[i]?.getD default), s)) := by
  have hi : i < s.cells.length := by rw [← hg.calen]; exact (List.getElem?_eq_some_iff.1 hb).1
  obtain ⟨b', gv, h1, h2, h3⟩ := hg.cells i hi
  rw [hb] at h1; cases h1
  obtain ⟨Tv, xv, rfl⟩ := h3.shape
  have cb : W.cell? ⟨b, 0, none⟩ = some (.iface Tv xv) := by simp [World.cell?, h2]
  have hv : s.cells[i]?.getD default = s.cells[i] := by simp [hi]
  rw [hv]
  have HP := Lib.hid (EvPost.val (Evo.refl _ _ _) hg h3)
  clear hv h2 h3 hg hb
  go_enter Tryd.func43, Tryd.ntmps43
  go_wp2_with fail
  go_ret
  exact HP.out

theorem prim_cell_other {p : Int} {k : Nat} (hp : (p = 11 ∧ k = 1) ∨ (p = 12 ∧ k = 2)) (T : TypeId) (hT : T = 88 ∨ T = 89 ∨ T = 94) (x : Value) {g cap : Nat} (c0 : W.cell? ⟨g, 0, none⟩ = some (.iface T x)) (r : Value) :
    Calls Tryd.prog 43 #[r, .int .i64 p, .slice (some ⟨g, 0, none⟩) k cap] W fun e w' => e = .panicked (stopV 4) ∧ W = w' := by
  rcases hp with ⟨rfl, rfl⟩ | ⟨rfl, rfl⟩
  all_goals
    rcases hT with rfl | rfl | rfl
    all_goals
      go_enter Tryd.func43, Tryd.ntmps43
      go_wp2_with (go_at_call 41; refine (stuck_any _).mono ?_; rintro e w' ⟨rfl, rfl⟩)
      exact ⟨rfl, rfl, rfl⟩

theorem prim_set_ref (hg : Good rb B p inp fuel s m W) {i b : Nat} (hb : m.ca[i]? = some b) {a : PV} {T : TypeId} {x : Value} (ha : RepV rb m W a (.iface T x)) {g cap : Nat} (c0 : W.cell? ⟨g, 0, none⟩ = some (.iface 112 (.pointer (some ⟨b, 0, none⟩)))) (c1 : W.cell? ⟨g, 1, none⟩ = some (.iface T x)) :
    Calls Tryd.prog 43 #[.pointer (some ⟨rb, 0, none⟩), .int .i64 12, .slice (some ⟨g, 0, none⟩) 2 cap] W (EvPost rb B p inp fuel m W (.val (.int 0), { s with cells := s.cells.set i a })) := by
  have hi : i < s.cells.length := by rw [← hg.calen]; exact (List.getElem?_eq_some_iff.1 hb).1
  obtain ⟨b', gv, h1, h2, h3⟩ := hg.cells i hi
  rw [hb] at h1; cases h1
  have cb : W.cell? ⟨b, 0, none⟩ = some gv := by simp [World.cell?, h2]
  have fb : W.frozen? ⟨b, 0, none⟩ = false := by simp [World.frozen?, h2]
  obtain ⟨q1, q2⟩ := hg.setRef hb ha
  have HP := Lib.hid (EvPost.val q2 q1 (.int 0))
  clear h2 h3 hg hb q1 q2 ha
  go_enter Tryd.func43, Tryd.ntmps43
  go_wp2_with fail
  go_ret
  exact HP.out

theorem prim_read_none (hg : Good rb B p inp fuel s m W) (hp : inp.length ≤ s.asked) (v : Value) :
    Calls Tryd.prog 43 #[.pointer (some ⟨rb, 0, none⟩), .int .i64 14, v] W (EvPost rb B p inp fuel m W (.raised (.int 1), { s with asked := s.asked + 1 })) := by
  have hg' := hg.past hp
  obtain ⟨Ai, ci, hr, hi, hci⟩ := hg.run
  have h1 : inp.drop s.asked = [] := List.drop_eq_nil_iff.2 hp
  have cb : W.cell? ⟨rb, 0, none⟩ = some (.slice Ai 0 ci) := by simp [World.cell?, hr, h1]
  have HP := Lib.hid (EvPost.raised (Evo.refl rb m W) hg' (.int 1) ⟨1, rfl⟩ (thrown_one _ _))
  clear hg hg' hr hi hci h1
  go_enter Tryd.func43, Tryd.ntmps43
  go_wp2_with fail
  exact ⟨rfl, HP.out⟩

theorem prim_read_some (hg : Good rb B p inp fuel s m W) (hp : s.asked < inp.length) (v : Value) :
    Calls Tryd.prog 43 #[.pointer (some ⟨rb, 0, none⟩), .int .i64 14, v] W (EvPost rb B p inp fuel m W (.val (.int (wrap31 (nth inp s.asked))), { s with asked := s.asked + 1 })) := by
  obtain ⟨Ai, ci, hr, hi, hci⟩ := hg.run
  have hdrop : inp.drop s.asked = nth inp s.asked :: inp.drop (s.asked + 1) := by
    rw [nth_eq _ hp]; exact List.drop_eq_getElem_cons hp
  have hfb : W.frozen? ⟨rb, 0, none⟩ = false := by simp [World.frozen?, hr]
  have hlen : (inp.drop s.asked).length = (inp.drop (s.asked + 1)).length + 1 := by rw [hdrop]; rfl
  obtain ⟨b, o, rfl, hlt, hc⟩ := hi.at_ (by omega)
  have cb : W.cell? ⟨rb, 0, none⟩ = some (.slice (some ⟨b, o, none⟩) ((inp.drop (s.asked + 1)).length + 1) ci) := by simp [World.cell?, hr, hlen]
  have c0 : W.cell? ⟨b, o, none⟩ = some (.int .i64 (nth inp s.asked)) := by
    have := hc 0 (by omega)
    rw [hdrop] at this
    simpa [nth] using this
  have h64 := hi.1
  have hci' : (inp.drop (s.asked + 1)).length + 1 ≤ ci := by omega
  have hL : (inp.drop (s.asked + 1)).length * 8 ≤ 140737488351232 := by omega
  have hc' : ∀ j, j < (inp.drop (s.asked + 1)).length → W.cell? ⟨b, o + 1 + j, none⟩ = some (.int .i64 (nth (inp.drop (s.asked + 1)) j)) := fun j hj => by
    have := hc (j + 1) (by omega)
    rw [hdrop] at this
    rw [show o + 1 + j = o + (j + 1) by omega, this]
    simp [nth]
  have HP := Lib.hid (fun (A' : Option Addr) (c' : Nat) (hA : 0 < (inp.drop (s.asked + 1)).length → A' = some ⟨b, o + 1, none⟩) (hcc : (inp.drop (s.asked + 1)).length ≤ c') =>
    (show EvPost rb B p inp fuel m W (.val (.int (wrap31 (nth inp s.asked))), { s with asked := s.asked + 1 }) (.returned (.iface 88 (.int .i64 (wrap31 (nth inp s.asked))))) (W.setCell ⟨rb, 0, none⟩ (.slice A' (inp.drop (s.asked + 1)).length c')) from by
      obtain ⟨q1, q2⟩ := hg.read (Ai := A') (ci := c') (⟨hL, by
        by_cases h0 : inp.drop (s.asked + 1) = []
        · exact .inl h0
        · have := List.length_pos_iff.2 h0
          exact .inr ⟨b, o + 1, hA this, hlt, hc'⟩⟩) hcc
      exact .val q2 q1 (.int _)))
  generalize (inp.drop (s.asked + 1)).length = L at *
  generalize EvPost rb B p inp fuel m W (.val (.int (wrap31 (nth inp s.asked))), { s with asked := s.asked + 1 }) = PP at *
  generalize nth inp s.asked = z at *
  have hL0 : ((L : Int) + 1 == 0) = false := by simp; omega
  have hL1 : (1 : Int) ≤ (L : Int) + 1 := by omega
  have hL2 : (L : Int) + 1 ≤ (ci : Int) := by omega
  have hL3 : (0 : Int) < (L : Int) + 1 := by omega
  clear hg hp hr hi hc hc' hdrop hlen hci h64
  go_enter Tryd.func43, Tryd.ntmps43
  go_wp2_with (go_at_call 35; refine (wrap_any _ _).mono ?_; rintro e w' ⟨rfl, rfl⟩)
  all_goals exact HP.out _ _ (by intro h; first | rfl | omega) (by omega)

theorem prim_raise (hg : Good rb B p inp fuel s m W) {a : PV} {T : TypeId} {x : Value} (ha : RepV rb m W a (.iface T x)) {g cap : Nat} (c0 : W.cell? ⟨g, 0, none⟩ = some (.iface T x)) :
    Calls Tryd.prog 43 #[.pointer (some ⟨rb, 0, none⟩), .int .i64 15, .slice (some ⟨g, 0, none⟩) 1 cap] W (EvPost rb B p inp fuel m W (match keyOf a with | some _ => (.raised a, s) | none => (.stuck, s))) := by
  cases hk : keyOf a with
  | some k =>
    have HK := Lib.hid ((key_any ha).mono (R' := fun e w' => e = .returned (.int .i64 k) ∧ W = w') (by
      rintro e w' (⟨n, hn, rfl, rfl⟩ | ⟨hn, rfl, rfl⟩)
      · rw [hk] at hn; cases hn; exact ⟨rfl, rfl⟩
      · rw [hk] at hn; cases hn))
    have HP := Lib.hid (EvPost.raised (Evo.refl rb m W) hg ha ⟨k, hk⟩ (thrown_one _ _))
    clear hg ha hk
    go_enter Tryd.func43, Tryd.ntmps43
    go_wp2_with (go_at_call 25; refine HK.out.mono ?_; rintro e w' ⟨rfl, rfl⟩)
    exact ⟨rfl, HP.out⟩
  | none =>
    have HK := Lib.hid ((key_any ha).mono (R' := fun e w' => e = .panicked (stopV 4) ∧ W = w') (by
      rintro e w' (⟨n, hn, rfl, rfl⟩ | ⟨hn, rfl, rfl⟩)
      · rw [hk] at hn; cases hn
      · exact ⟨rfl, rfl⟩))
    have HP := Lib.hid (EvPost.stuck (Evo.refl rb m W) hg (thrown_one _ _))
    clear hg ha hk
    go_enter Tryd.func43, Tryd.ntmps43
    go_wp2_with (go_at_call 25; refine HK.out.mono ?_; rintro e w' ⟨rfl, rfl⟩)
    exact ⟨rfl, HP.out⟩

end
end Go.Proofs.YtllakbiipdcboaaDoor
