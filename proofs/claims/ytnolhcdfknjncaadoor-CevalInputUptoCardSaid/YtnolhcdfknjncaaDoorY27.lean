/-
  1 texts of this seat in one: V27.
-/
import Derived.Test.YtnolhcdfknjncaaDoorY25
import Derived.Test.YtnolhcdfknjncaaDoorQR
import Derived.Deep.RegionHeld2
/-
  The document's run: functions that know one another: the walk.
-/
set_option linter.unusedVariables false
set_option linter.unusedSimpArgs false
namespace Go.Proofs.YtnolhcdfknjncaaDoor
open Go.RowKit

theorem Tryd.infoEnv : (Tryd.prog.info? 101).map (fun i => (i.zero, i.size, i.bytes)) = some (some (.pointer none), 1, 8) := by kernel_rfl
section
variable {X Y : Nat → Prop} {B mb cb : Nat} {inp : List Int} {fuel : FL} {s s1 : St} {cut stk rai : Bool} {x0 x1 x2 : Value} {W W' w w' w1 w3 : World} {o : Out} {base n0 j q : Nat} {ks : List Int} {pv : Value} {bs : List Nat} {xs : List Value} {G0 G1 G2 G3 : Nat → Value} {P own : Value}
/-- the first loop -/
structure Fix1 (W Wb : World) (ks : List Int) (pv : Value) (n0 : Nat) (bs : List Nat) (own : Value) (k : Nat) (w : World) : Prop where
  bel : Below (W.heap.size + 1) Wb w
  own_ : w.ownsRow (W.heap.size + 1) 101 1 own k (bs.map (fun b => Value.pointer (some ⟨b, 0, none⟩)))
  links : Links (W.heap.size + 1) ks pv n0 0 bs w
  len : bs.length = k
theorem Fix1.next {Wb : World} {k : Nat} (hWb : Wb.heap.size = W.heap.size + 1) (h : Fix1 W Wb ks pv n0 bs own k w) {own' : Value} {T : TypeId} {cs : Array Value}
    (hg : ((w.alloc (linkO (nth ks (2 * k)) 0 0 (upV pv bs k))).alloc (.cells cs T)).grownBy w3 own.ownBlock)
    (hown : w3.ownsRow (W.heap.size + 1) 101 1 own' (k + 1) (bs.map (fun b => Value.pointer (some ⟨b, 0, none⟩)) ++ [.pointer (some ⟨w.heap.size, 0, none⟩)])) :
    Fix1 W Wb ks pv n0 (bs ++ [w.heap.size]) own' (k + 1) w3 ∧ upV pv (bs ++ [w.heap.size]) (k + 1) = .pointer (some ⟨w.heap.size, 0, none⟩) := by
  have hlen := h.len
  subst hlen
  have hsz : W.heap.size + 1 ≤ w.heap.size := by have := h.bel.size; omega
  have hal := below_al2 w (linkO (nth ks (2 * bs.length)) 0 0 (upV pv bs bs.length)) (.cells cs T)
  have hge := own_ge h.own_
  have hlt : ∀ i (hi : i < bs.length), bs[i] < w.heap.size := fun i hi => (Array.getElem?_eq_some_iff.1 (h.links.at_ i hi).2).1
  refine ⟨⟨?_, by simpa using hown, h.links.snoc (fun i hi => ?_) hsz (fun i hi => by have := hlt i hi; omega) ?_, by simp⟩, by simp [upV]⟩
  · have h1 := h.bel.trans (hal.mono hsz)
    exact ⟨hg.os.trans h1.os, hg.tape.trans h1.tape, hg.output.trans h1.output, Nat.le_trans h1.size hg.size, fun i hi => (hg.block i (by have := h1.size; omega) (fun e => by have := hge i e.symm; omega)).trans (h1.block i hi)⟩
  · have := hlt i hi
    refine (hg.block _ (by simp; omega) ?_).trans (hal.block _ this)
    rcases h.own_.2 with ⟨rfl, _⟩ | ⟨g, cap, cur, rfl, hgb, hgh, _⟩
    · simp [Value.ownBlock]
    · intro e
      simp only [Value.ownBlock, Option.some.injEq] at e
      exact link_ne (g := g) (cap := 0) h.links hi (by decide) hgh e
  · have h1 : (w.alloc (linkO (nth ks (2 * bs.length)) 0 0 (upV pv bs bs.length))).heap[w.heap.size]? = _ := new1 _ _
    have h2 := ((below_al1 _ (.cells cs T)).block w.heap.size (by simp)).trans h1
    refine (hg.block w.heap.size (by simp; omega) (fun e => ?_)).trans h2
    have := own_lt_ h.own_ w.heap.size e.symm
    omega
theorem Fix1.done {Wb : World} {core : Obj} {Af : Option Addr} {cf : Nat} (hWb : W.alloc core = Wb) (hcb : W.heap[cb]? = some (.cells #[.pointer (some ⟨mb, 0, none⟩), .slice Af n0 cf] 61 (0, 0))) (hcf : n0 ≤ cf) (hrow : RowOf W Af xs) (hq : bs.length = q) (h : Fix1 W Wb ks pv n0 bs own q w) :
    Fix2 W mb cb ks pv n0 bs xs G0 G1 G2 G3 P own core 0 w := by
  have hlt := (Array.getElem?_eq_some_iff.1 hcb).1
  have hb1 : Below W.heap.size W Wb := hWb ▸ below_al1 W core
  have hbw : Below W.heap.size W w := hb1.trans (h.bel.mono (Nat.le_succ _))
  have hsz : Wb.heap.size = W.heap.size + 1 := by rw [← hWb]; simp
  refine ⟨⟨hbw.os, hbw.tape, hbw.output, hbw.size, fun k hk _ => hbw.block k hk⟩, ⟨Af, cf, (hbw.block cb hlt).trans hcb, by omega, by simpa [newsF] using hrow.below hbw, fun ad ha => ?_, fun h => by omega⟩, h.links, by rw [hq]; exact h.own_, (h.bel.block W.heap.size (by omega)).trans (by rw [← hWb]; exact new1 _ _)⟩
  rcases hrow with ⟨_, rfl⟩ | ⟨ad', ha', hc⟩
  · left; rfl
  · cases xs with
    | nil => left; rfl
    | cons x xs =>
      right
      intro b hb
      rw [ha] at ha'
      simp only [Option.some.injEq] at ha'
      subst ha'
      have h0 := World.block_lt_of_cell? _ _ (hc 0 x rfl)
      rw [add_block] at h0
      obtain ⟨i, hi, rfl⟩ := List.getElem_of_mem hb
      have := (h.links.at_ i hi).1
      omega
/-- what a call of fn leaves -/
theorem Fix2.raw {core : Obj} {n : Nat} {xs' nw : List Value} (h : Fix2 W mb cb ks pv n0 bs xs G0 G1 G2 G3 P own core j w) (hcb : cb < W.heap.size) (hj : j < bs.length) {w0 : World} (hw0 : w0.heap = w.heap) (ho0 : w0.os = w.os ∧ w0.tape = w.tape ∧ w0.output = w.output) (hr : RawFn mb cb n xs' nw w0 w1) :
    w.grownBy w1 (some cb) ∧ w1.heap[bs[j]]? = some (linkO (nth ks (2 * j)) 0 0 (upV pv bs j)) := by
  obtain ⟨g, cap, hg, hcap, hc1, hcell, hgr⟩ := hr
  have hgr' : w.grownBy w1 (some cb) := ⟨hgr.os.trans ho0.1, hgr.tape.trans ho0.2.1, hgr.output.trans ho0.2.2, by have := hgr.size; rw [hw0] at this; exact this, fun k hk hne => by rw [← hw0]; exact hgr.block k (by rw [hw0]; exact hk) hne⟩
  have hl := (h.links.at_ j hj).2
  rw [if_neg (Nat.lt_irrefl j), if_neg (Nat.lt_irrefl j)] at hl
  exact ⟨hgr', (hgr'.block _ (Array.getElem?_eq_some_iff.1 hl).1 (fun e => by have := (h.links.at_ j hj).1; simp only [Option.some.injEq] at e; omega)).trans hl⟩

theorem upV_shape (pq : Option Addr) (bs : List Nat) (k : Nat) : ∃ p, upV (.pointer pq) bs k = .pointer p := by cases k <;> exact ⟨_, rfl⟩
theorem newsF_one {ks : List Int} {G0 G1 G2 G3 : Nat → Value} {p1 : Option Addr} {q : Nat} (hG : ∀ i, i < q → ∃ k n A na ca A' nb cb, #[G0 i, G1 i, G2 i, G3 i] = #[.int .i64 k, .int .i64 n, .slice A na ca, .slice A' nb cb]) : ∀ j, j ≤ q → ∀ u ∈ newsF ks G0 G1 G2 G3 (.pointer p1) j, u.oneCell' = true := by
  intro j
  induction j with
  | zero => intro _ u hu; simp [newsF] at hu
  | succ j ih =>
    intro hj u hu
    rcases List.mem_append.1 hu with hu | hu
    · exact ih (by omega) u hu
    · obtain ⟨k, n, A, na, ca, A', nb, cb, hv⟩ := hG j (by omega)
      simp only [Array.mk.injEq, List.cons.injEq, and_true] at hv
      simp only [newF, hv.1, hv.2.1, hv.2.2.1, hv.2.2.2] at hu
      simp at hu
      rcases hu with rfl | rfl | rfl | rfl | rfl | rfl <;> rfl
def FixR (X : Nat → Prop) (B mb cb : Nat) (inp : List Int) (fuel : FL) (s : St) (ks : List Int) (cs : List Core) (e : PEnv) (W : World) (en : Ending) (W' : World) : Prop :=
  ∃ gp, en = .returned (.pointer gp) ∧ Stp B mb cb W W' ∧ RGo X B mb cb inp fuel.up { s with fns := s.fns ++ fixFns (fixEnv ks s.fns.length e) ks cs } W' ∧ EIn X (s.fns ++ fixFns (fixEnv ks s.fns.length e) ks cs).length s.cells.length W' (fixEnv ks s.fns.length e) (.pointer gp)
set_option maxRecDepth 100000 in
set_option maxHeartbeats 8000000 in
theorem rfix_any (h : RGo X B mb cb inp fuel s W) (hX : ∀ k, X k → k < W.heap.size) (hlim : fuel.lim < fuel.f) {t : Core} {g0 g1 g2 g3 : Value} (hc : CoreIn B W t #[g0, g1, g2, g3]) (hs : SmallT t) (hk6 : t.k = 6) {e : PEnv} (he : EIn X s.fns.length s.cells.length W e pv) :
    Calls Tryd.prog 49 #[.pointer (some ⟨cb, 0, none⟩), .agg #[g0, g1, g2, g3], pv] W (FixR X B mb cb inp fuel s t.ks t.cs e W) := by
  have hk1000 := hs.keys
  have hcnt := hs.node.2.2.2.1
  have hsk : ∀ c ∈ t.cs, SmallT c := fun c hc => hs.kid hc
  obtain ⟨k0, nn, ks, cs, Ak, ck, Ac, cc, b, oo, G0, G1, G2, G3, rfl, hv, hks, hck, hcc, hK⟩ := hc.open_
  simp only [Array.mk.injEq, List.cons.injEq, and_true] at hv
  obtain ⟨rfl, rfl, rfl, rfl⟩ := hv
  simp only [Core.k] at hk6
  subst hk6
  simp only [Core.k, Core.ks, Core.cs, Core.n, cntB, if_true] at hcnt hk1000 hsk ⊢
  have hcnt := of_decide_eq_true hcnt
  obtain ⟨q, hq⟩ : ∃ q, ks.length = 2 * q := ⟨ks.length / 2, by omega⟩
  have hcl : q < cs.length := by omega
  have hq1 : 0 < q := by omega
  have hq5 : q ≤ 500 := by omega
  obtain ⟨pq, rfl⟩ := he.shape
  obtain ⟨bk, ok, rfl, hbk, hkc⟩ := hks.at_ (by omega)
  obtain ⟨rfl, hbB⟩ := hK.hA (by omega)
  have hlt := own_lt h
  have hBW := h.hBW
  have hBcb := h.hcb
  obtain ⟨Af, cf, xs, hcb, hxs, hrow⟩ := h.fnsL
  have hone := hxs.one (fun a c h => h.one)
  have hxlen := hxs.len
  have hfb := h.fuelB
  have hlb := h.limB
  have hfn := h.fnsB
  obtain ⟨Af', cf', hcb', hcf, -⟩ := h.c
  have hcfe : cf' = cf := by rw [hcb] at hcb'; simp at hcb'; exact hcb'.2.symm
  subst hcfe
  obtain ⟨inf0, hinf, hz0, hz1, hz2⟩ := info_parts Tryd.infoEnv
  -- what is read
  have HRD := Lib.hid (fun (V : World) (hbx : V.heap[W.heap.size]? = some (.cells #[.int .i64 6, .int .i64 nn, .slice (some ⟨bk, ok, none⟩) (2 * q) ck, .slice (some ⟨b, oo, none⟩) cs.length cc] 26 (0, 0))) (hV : Below B W V) (k : Nat) (hk : k < q) =>
    (show V.cell? ⟨W.heap.size, 2, none⟩ = some (.slice (some ⟨bk, ok, none⟩) (2 * q) ck) ∧ V.cell? ⟨W.heap.size, 3, none⟩ = some (.slice (some ⟨b, oo, none⟩) cs.length cc) ∧
        V.cell? ⟨bk, ok + 2 * k, none⟩ = some (.int .i64 (nth ks (2 * k))) ∧ V.cell? ⟨bk, ok + (2 * k + 1), none⟩ = some (.int .i64 (nth ks (2 * k + 1))) ∧
        V.cell? ⟨b, oo + k * 4, none⟩ = some (G0 k) ∧ V.cell? ⟨b, oo + k * 4 + 1, none⟩ = some (G1 k) ∧ V.cell? ⟨b, oo + k * 4 + 2, none⟩ = some (G2 k) ∧ V.cell? ⟨b, oo + k * 4 + 3, none⟩ = some (G3 k) from
      ⟨by simp [World.cell?, hbx, hq], by simp [World.cell?, hbx], (hV.cell (p := ⟨_, _, none⟩) hbk).trans (hkc _ (by omega)), (hV.cell (p := ⟨_, _, none⟩) hbk).trans (hkc _ (by omega)),
       (hV.cell (p := ⟨_, _, none⟩) hbB).trans (hK.c0 k (by omega)), (hV.cell (p := ⟨_, _, none⟩) hbB).trans (hK.c1 k (by omega)), (hV.cell (p := ⟨_, _, none⟩) hbB).trans (hK.c2 k (by omega)), (hV.cell (p := ⟨_, _, none⟩) hbB).trans (hK.c3 k (by omega))⟩))
  have HBX2 := Lib.hid (fun (V : World) (hbx : V.heap[W.heap.size]? = some (.cells #[.int .i64 6, .int .i64 nn, .slice (some ⟨bk, ok, none⟩) (2 * q) ck, .slice (some ⟨b, oo, none⟩) cs.length cc] 26 (0, 0))) => (show V.cell? ⟨W.heap.size, 2, none⟩ = some (.slice (some ⟨bk, ok, none⟩) (2 * q) ck) from by simp [World.cell?, hbx, hq]))
  have HDONE := Lib.hid (fun (w : World) (bs : List Nat) (own : Value) (core : Obj) (gp : Option Addr) (hbs : bs.length = q) (hgp : upV (.pointer pq) bs q = .pointer gp) (h2 : Fix2 W mb cb ks (.pointer pq) s.fns.length bs xs G0 G1 G2 G3 (upV (.pointer pq) bs q) own core q w) =>
    (show FixR X B mb cb inp fuel s ks cs e W (.returned (.pointer gp)) w from by
      obtain ⟨r1, r2, r3⟩ := Fix2.done (t := default) (Ac := some ⟨b, oo, none⟩) (cf := 0) (Af := none) h hX hlim hq hq1 hq5 (Nat.le_of_lt hcl) hbs hK hsk he hxs h2
      rw [hgp] at r3
      exact ⟨gp, rfl, r1, r2, r3⟩))
  have HG := Lib.hid (fun (k : Nat) (hk : k < q) => (hK.hsub k (by omega)).shape)
  rw [hq]
  generalize hWb : W.alloc (.cells #[.int .i64 6, .int .i64 nn, .slice (some ⟨bk, ok, none⟩) (2 * q) ck, .slice (some ⟨b, oo, none⟩) cs.length cc] 26) = Wb
  have hsz1 : Wb.heap.size = W.heap.size + 1 := by rw [← hWb]; simp
  have hbx : Wb.heap[W.heap.size]? = some (.cells #[.int .i64 6, .int .i64 nn, .slice (some ⟨bk, ok, none⟩) (2 * q) ck, .slice (some ⟨b, oo, none⟩) cs.length cc] 26 (0, 0)) := by rw [← hWb]; exact new1 _ _
  have hbWb : Below W.heap.size W Wb := by rw [← hWb]; exact below_al1 _ _
  have HBW := Lib.hid (fun (V : World) (hV : Below (W.heap.size + 1) Wb V) => (show V.heap[W.heap.size]? = some (.cells #[.int .i64 6, .int .i64 nn, .slice (some ⟨bk, ok, none⟩) (2 * q) ck, .slice (some ⟨b, oo, none⟩) cs.length cc] 26 (0, 0)) ∧ Below B W V from
    ⟨(hV.block _ (Nat.lt_succ_self _)).trans hbx, (hbWb.mono hBW).trans (hV.mono (by omega))⟩))
  have H1D := Lib.hid (fun (w : World) (bs : List Nat) (own : Value) (hbs : bs.length = q) (h1 : Fix1 W Wb ks (.pointer pq) s.fns.length bs own q w) => Fix1.done (G0 := G0) (G1 := G1) (G2 := G2) (G3 := G3) (P := upV (.pointer pq) bs q) hWb hcb hcf hrow hbs h1)
  have H1S := Lib.hid (show Fix1 W Wb ks (.pointer pq) s.fns.length [] (.slice (some ⟨W.heap.size + 1, 0, none⟩) 0 0) 0 (Wb.alloc (.cells #[] 101)) ∧ upV (.pointer pq) [] 0 = .pointer pq from
    ⟨⟨by have := below_al1 Wb (.cells #[] 101); rwa [hsz1] at this, by have := own_empty Wb (Nat.le_refl _) 101 1; rwa [hsz1] at this, ⟨fun i hi => by simp at hi, fun i i' hi => by simp at hi⟩, rfl⟩, rfl⟩)
  have HO := Lib.hid (And.intro hlt (And.intro hBW (And.intro hBcb (And.intro hbk (And.intro hbB (And.intro hone hxlen))))))
  have hnn : s.fns.length + 500 ≤ 1000000000 := by omega
  have hclI : (q : Int) < (cs.length : Int) := by omega
  have HSZ := Lib.hid hsz1
  have HWB := Lib.hid hWb
  clear h hX hlim hc hs he hxs hrow hcb hcb' hcf hK hsk hks hkc hbk hbB hone hxlen hfb hlb hfn hcnt hbx hbWb hlt hBW hBcb hck hcc hk1000
  generalize s.fns.length = n0 at *
  go_enter Tryd.func49, Tryd.ntmps49
  go_wp2_with fail
  clear hWb
  go_loopw [7, 8, 2] (fun own i e wr => ∃ (k : Nat) (bs : List Nat) (own0 top : Value), own0 = own ∧ top = e ∧ k ≤ q ∧ i = .int .i64 (2 * (k : Int)) ∧ Hid (Fix1 W Wb ks (.pointer pq) n0 bs own0 k wr ∧ upV (.pointer pq) bs k = top)) (fun _ i _ _ => 2 * q + 2 - (intOf i).toNat)
  case atStart => exact ⟨0, [], _, _, rfl, rfl, by omega, rfl, H1S⟩
  case round =>
    obtain ⟨k, bs, own, top, he1, he2, hk, rfl, HF⟩ := hrel
    subst he1
    subst he2
    obtain ⟨h1, htop⟩ := HF.out
    obtain ⟨p1, hp1⟩ := upV_shape pq bs k
    obtain rfl : top = .pointer p1 := htop.symm.trans hp1
    obtain ⟨hbx, hbB⟩ := HBW.out wr h1.bel
    have r2 := HBX2.out wr hbx
    have hw1 : IntKind.i64.wrap (2 * (k : Int) + 1) = 2 * (k : Int) + 1 := by rw [IntKind.wrap_i64]; omega
    have hw2 : IntKind.i64.wrap (2 * (k : Int) + 2) = 2 * (k : Int) + 2 := by rw [IntKind.wrap_i64]; omega
    by_cases hlt : k < q
    · obtain ⟨-, -, r4, -⟩ := HRD.out wr hbx hbB k hlt
      have hlt' : 2 * (k : Int) + 1 < 2 * (q : Int) := by omega
      have hge2 : (0 : Int) ≤ 2 * (k : Int) := by omega
      have hlt3 : 2 * (k : Int) < 2 * (q : Int) := by omega
      have hn2 : (2 * (k : Int)).toNat = 2 * k := by omega
      have hbsz : W.heap.size + 1 ≤ wr.heap.size := by have := h1.bel.size; have := HSZ.out; omega
      have HNX := Lib.hid (fun (w3 : World) (own' : Value) (T : TypeId) (cs : Array Value) => Fix1.next (w3 := w3) (own' := own') (T := T) (cs := cs) HSZ.out h1)
      have HOWN := Lib.hid h1.own_
      rw [hp1] at HNX
      clear h1 htop hp1 hbx hbB HF
      go_wp2_with (at_builtin; refine wpList_append_row _ rfl _ _ 132 rfl (W.heap.size + 1) 101 inf0 _ 1 8 Tryd.underlying132 hinf hz0 hz1 hz2 rfl (by decide) _ k _ rfl (World.ownsRow.alloc (World.ownsRow.alloc HOWN.out _) _) _ 1 1 [.pointer (some ⟨wr.heap.size, 0, none⟩)] rfl rfl (rowOf_block (new2 wr _ _)) (by simp [Value.oneCell']) (by simp only [maxLen]; omega) (by omega) (by simp; omega) ?_; intro v' w3 hown3 hg3 hat3; have HQ3 := Lib.hid (HNX.out w3 v' _ _ hg3 hown3); clear hown3 hg3 hat3)
      go_roundw
      case rel => exact ⟨k + 1, bs ++ [wr.heap.size], _, _, rfl, rfl, by omega, by go_num, HQ3⟩
      case measure => simp [intOf]; omega
    · obtain rfl : k = q := by omega
      have hlt' : ¬ 2 * (k : Int) + 1 < 2 * (k : Int) := by omega
      have hlen := h1.len
      have hF2 := H1D.out wr bs own hlen h1
      have HD0 := HDONE.out
      rw [hp1] at hF2
      obtain ⟨go, capo, e1, hgo, hcapo, -, -, -⟩ := own_cell h1.own_ hq1
      subst e1
      have HDN := Lib.hid (fun (w : World) (own : Value) (core : Obj) (h2 : Fix2 W mb cb ks (.pointer pq) n0 bs xs G0 G1 G2 G3 (.pointer p1) own core k w) => HDONE.out w bs own core p1 hlen hp1 (by rw [hp1]; exact h2))
      have HF2 := Lib.hid hF2
      have HL := Lib.hid hlen
      clear h1 htop hp1 hbx hbB HF hF2 HD0 hlen
      go_wp2_with fail
      go_loopw [9] (fun i w2 => ∃ j : Nat, j ≤ k ∧ i = .int .i64 (j : Int) ∧ Hid (Fix2 W mb cb ks (.pointer pq) n0 bs xs G0 G1 G2 G3 (.pointer p1) (.slice (some ⟨go, 0, none⟩) k capo) (.cells #[.int .i64 6, .int .i64 nn, .slice (some ⟨bk, ok, none⟩) (2 * k) ck, .slice (some ⟨b, oo, none⟩) cs.length cc] 26) j w2)) (fun i _ => k - (intOf i).toNat)
      case atStart => exact ⟨0, by omega, rfl, HF2⟩
      case round =>
        obtain ⟨j, hj, rfl, HF⟩ := hrel
        by_cases hjl : j < k
        · obtain ⟨hltW, hBW, hBcb, hbk, hbB, hone, hxlen⟩ := HO.out
          have hF := HF.out
          have hjb : j < bs.length := by have := HL.out; omega
          have hold := hF.old
          have hbelB : Below B W wr := ⟨hold.os, hold.tape, hold.output, hold.size, fun i hi => hold.block i (by omega) (fun e => by simp only [Option.some.injEq] at e; omega)⟩
          obtain ⟨r2', r3, -, r5, r6, r7, r8, r9⟩ := HRD.out wr hF.box hbelB j hjl
          obtain ⟨y0, y1, A2, n2, d2, A3, n3, d3, hsh⟩ := HG.out j hjl
          obtain ⟨A, c, hcbw, hcc, hrow, -, -⟩ := hF.row
          obtain ⟨g', cap', e2, hgo', -, -, hgl, hocell⟩ := own_cell hF.own_ (by omega)
          simp only [Value.slice.injEq, Option.some.injEq, Addr.mk.injEq, and_true, true_and] at e2
          obtain ⟨rfl, -, rfl⟩ := e2
          have ro : wr.cell? ⟨go, j, none⟩ = some (.pointer (some ⟨bs[j], 0, none⟩)) := by
            have := hocell j (.pointer (some ⟨bs[j], 0, none⟩)) (by simp [hjb])
            simpa using this
          have hbj := hF.links.at_ j hjb
          have hnl : (newsF ks G0 G1 G2 G3 (.pointer p1) j).length = j * 6 := newsF_len _ _ _ _ _ _ _
          have hone2 : ∀ u ∈ xs ++ newsF ks G0 G1 G2 G3 (.pointer p1) j, u.oneCell' = true := by
            intro u hu
            rcases List.mem_append.1 hu with hu | hu
            · exact hone u hu
            · exact newsF_one (fun i hi => HG.out i (by omega)) j (Nat.le_of_lt hjl) u hu
          have hgoj : go ≠ bs[j] := by
            rcases hF.own_.2 with ⟨h0, _⟩ | ⟨g1, cap1, cur, e3, _, hgh, _⟩
            · cases h0
            · simp only [Value.slice.injEq, Option.some.injEq, Addr.mk.injEq, and_true] at e3
              obtain ⟨rfl, -, -⟩ := e3
              exact fun e => link_ne (g := go) (cap := 0) hF.links hjb (by decide) hgh e.symm
          obtain ⟨m, hm⟩ : ∃ m, n0 + j = m := ⟨_, rfl⟩
          obtain ⟨bj, hbje⟩ : ∃ bj, bs[j] = bj := ⟨_, rfl⟩
          have hnew : newF ks G0 G1 G2 G3 (.pointer p1) j = [.int .i64 (nth ks (2 * j + 1)), .int .i64 y0, .int .i64 y1, .slice A2 n2 d2, .slice A3 n3 d3, .pointer p1] := by
            simp only [Array.mk.injEq, List.cons.injEq, and_true] at hsh
            simp only [newF, hsh.1, hsh.2.1, hsh.2.2.1, hsh.2.2.2]
          have hRAWW : Calls Tryd.prog 48 #[.pointer (some ⟨cb, 0, none⟩), .agg #[.int .i64 (nth ks (2 * j + 1)), .int .i64 y0, .int .i64 y1, .slice A2 n2 d2, .slice A3 n3 d3, .pointer p1]] wr.drew fun e w' => e = .returned (.agg #[.int .i64 3, .int .i64 (m : Int), .slice none 0 0]) ∧ RawFn mb cb m (xs ++ newsF ks G0 G1 G2 G3 (.pointer p1) j) [.int .i64 (nth ks (2 * j + 1)), .int .i64 y0, .int .i64 y1, .slice A2 n2 d2, .slice A3 n3 d3, .pointer p1] wr.drew w' :=
            rfn_raw (W := wr.drew) (mb := mb) (n := m) (by rw [← hm]; exact hcbw) (show RowOf wr.drew A _ from hrow) (by rw [List.length_append, hnl, hxlen, ← hm, Nat.add_mul]) hone2 (by omega)
          have HRAW := Lib.hid hRAWW
          have HNX := Lib.hid (fun (w1 : World) (hr : RawFn mb cb m (xs ++ newsF ks G0 G1 G2 G3 (.pointer p1) j) [.int .i64 (nth ks (2 * j + 1)), .int .i64 y0, .int .i64 y1, .slice A2 n2 d2, .slice A3 n3 d3, .pointer p1] wr.drew w1) =>
            (show Fix2 W mb cb ks (.pointer pq) n0 bs xs G0 G1 G2 G3 (.pointer p1) (.slice (some ⟨go, 0, none⟩) k capo) (.cells #[.int .i64 6, .int .i64 nn, .slice (some ⟨bk, ok, none⟩) (2 * k) ck, .slice (some ⟨b, oo, none⟩) cs.length cc] 26) (j + 1) (set3 w1 bj 1 (.int .i64 3) (.int .i64 (m : Int)) (.slice none 0 0)) ∧ wr.grownBy w1 (some cb) ∧ (w1.cell? ⟨bj, 1, none⟩ = some (.int .i64 0) ∧ w1.cell? ⟨bj, 2, none⟩ = some (.int .i64 0) ∧ w1.cell? ⟨bj, 3, none⟩ = some (.slice none 0 0) ∧ ∀ i, w1.frozen? ⟨bj, i, none⟩ = false) from by
              have hr' := hr
              rw [← hm, ← hnew] at hr'
              have h1 := hF.next (w0 := wr.drew) hltW.2 hjb rfl ⟨rfl, rfl, rfl⟩ hr'
              obtain ⟨h2, h3⟩ := hF.raw (w0 := wr.drew) hltW.2 hjb rfl ⟨rfl, rfl, rfl⟩ hr'
              rw [hbje] at h1 h3
              rw [← hm]
              exact ⟨h1, h2, by simp [World.cell?, h3], by simp [World.cell?, h3], by simp [World.cell?, h3], fun i => by simp [World.frozen?, h3]⟩))
          rw [hbje] at ro hgoj hbj
          have hbjW : W.heap.size + 1 ≤ bj := hbj.1
          have hw1 : IntKind.i64.wrap (2 * (j : Int)) = 2 * (j : Int) := by rw [IntKind.wrap_i64]; omega
          have hw2' : IntKind.i64.wrap (2 * (j : Int) + 1) = 2 * (j : Int) + 1 := by rw [IntKind.wrap_i64]; omega
          have hw3 : IntKind.i64.wrap ((j : Int) + 1) = (j : Int) + 1 := by rw [IntKind.wrap_i64]; omega
          have hn1 : (2 * (j : Int) + 1).toNat = 2 * j + 1 := by omega
          have hi0 : (0 : Int) ≤ (j : Int) := by omega
          have hi1 : (0 : Int) ≤ 2 * (j : Int) + 1 := by omega
          have hi2 : 2 * (j : Int) + 1 < 2 * (k : Int) := by omega
          have hi3 : (j : Int) < (k : Int) := by omega
          have hi4 : (j : Int) < (cs.length : Int) := by omega
          simp only [Array.mk.injEq, List.cons.injEq, and_true] at hsh
          rw [hsh.1] at r6
          rw [hsh.2.1] at r7
          rw [hsh.2.2.1] at r8
          rw [hsh.2.2.2] at r9
          generalize nth ks (2 * j + 1) = kx at *
          have hszo := hold.size
          have hb1 : b < wr.heap.size ∧ b ≠ cb := by omega
          have hb2 : bk < wr.heap.size ∧ bk ≠ cb := by omega
          have hb3 : W.heap.size < wr.heap.size ∧ W.heap.size ≠ cb := ⟨(Array.getElem?_eq_some_iff.1 hF.box).1, by omega⟩
          have hb4 : go < wr.heap.size ∧ go ≠ cb := by omega
          have HSS := Lib.hid (fun (V : World) (hg : wr.grownBy V (some cb)) => (show V.cell? ⟨go, j, none⟩ = some (.pointer (some ⟨bj, 0, none⟩)) ∧ V.cell? ⟨W.heap.size, 2, none⟩ = some (.slice (some ⟨bk, ok, none⟩) (2 * k) ck) ∧ V.cell? ⟨bk, ok + (2 * j + 1), none⟩ = some (.int .i64 kx) ∧ V.cell? ⟨W.heap.size, 3, none⟩ = some (.slice (some ⟨b, oo, none⟩) cs.length cc) ∧ V.cell? ⟨b, oo + j * 4, none⟩ = some (.int .i64 y0) ∧ V.cell? ⟨b, oo + j * 4 + 1, none⟩ = some (.int .i64 y1) ∧ V.cell? ⟨b, oo + j * 4 + 2, none⟩ = some (.slice A2 n2 d2) ∧ V.cell? ⟨b, oo + j * 4 + 3, none⟩ = some (.slice A3 n3 d3) from
            ⟨(World.cell?_of_block (hg.block _ hb4.1 (fun e => by simp only [Option.some.injEq] at e; exact hb4.2 e))).trans ro, (World.cell?_of_block (hg.block _ hb3.1 (fun e => by simp only [Option.some.injEq] at e; exact hb3.2 e))).trans r2', (World.cell?_of_block (hg.block _ hb2.1 (fun e => by simp only [Option.some.injEq] at e; exact hb2.2 e))).trans r5, (World.cell?_of_block (hg.block _ hb3.1 (fun e => by simp only [Option.some.injEq] at e; exact hb3.2 e))).trans r3,
             (World.cell?_of_block (hg.block _ hb1.1 (fun e => by simp only [Option.some.injEq] at e; exact hb1.2 e))).trans r6, (World.cell?_of_block (hg.block _ hb1.1 (fun e => by simp only [Option.some.injEq] at e; exact hb1.2 e))).trans r7, (World.cell?_of_block (hg.block _ hb1.1 (fun e => by simp only [Option.some.injEq] at e; exact hb1.2 e))).trans r8, (World.cell?_of_block (hg.block _ hb1.1 (fun e => by simp only [Option.some.injEq] at e; exact hb1.2 e))).trans r9⟩))
          have hd1 : bj ≠ go := fun e => hgoj e.symm
          have hd2 : bj ≠ W.heap.size := by omega
          have hd3 : bj ≠ bk := by omega
          have hd4 : bj ≠ b := by omega
          have HEE := Lib.hid (fun (V : World) (i : Nat) (x : Value) (hq : V.cell? ⟨go, j, none⟩ = some (.pointer (some ⟨bj, 0, none⟩)) ∧ V.cell? ⟨W.heap.size, 2, none⟩ = some (.slice (some ⟨bk, ok, none⟩) (2 * k) ck) ∧ V.cell? ⟨bk, ok + (2 * j + 1), none⟩ = some (.int .i64 kx) ∧ V.cell? ⟨W.heap.size, 3, none⟩ = some (.slice (some ⟨b, oo, none⟩) cs.length cc) ∧ V.cell? ⟨b, oo + j * 4, none⟩ = some (.int .i64 y0) ∧ V.cell? ⟨b, oo + j * 4 + 1, none⟩ = some (.int .i64 y1) ∧ V.cell? ⟨b, oo + j * 4 + 2, none⟩ = some (.slice A2 n2 d2) ∧ V.cell? ⟨b, oo + j * 4 + 3, none⟩ = some (.slice A3 n3 d3)) => (show (V.setCell ⟨bj, i, none⟩ x).cell? ⟨go, j, none⟩ = some (.pointer (some ⟨bj, 0, none⟩)) ∧ (V.setCell ⟨bj, i, none⟩ x).cell? ⟨W.heap.size, 2, none⟩ = some (.slice (some ⟨bk, ok, none⟩) (2 * k) ck) ∧ (V.setCell ⟨bj, i, none⟩ x).cell? ⟨bk, ok + (2 * j + 1), none⟩ = some (.int .i64 kx) ∧ (V.setCell ⟨bj, i, none⟩ x).cell? ⟨W.heap.size, 3, none⟩ = some (.slice (some ⟨b, oo, none⟩) cs.length cc) ∧ (V.setCell ⟨bj, i, none⟩ x).cell? ⟨b, oo + j * 4, none⟩ = some (.int .i64 y0) ∧ (V.setCell ⟨bj, i, none⟩ x).cell? ⟨b, oo + j * 4 + 1, none⟩ = some (.int .i64 y1) ∧ (V.setCell ⟨bj, i, none⟩ x).cell? ⟨b, oo + j * 4 + 2, none⟩ = some (.slice A2 n2 d2) ∧ (V.setCell ⟨bj, i, none⟩ x).cell? ⟨b, oo + j * 4 + 3, none⟩ = some (.slice A3 n3 d3) from
            ⟨(World.cell?_setCell_far V _ _ _ hd1).trans hq.1, (World.cell?_setCell_far V _ _ _ hd2).trans hq.2.1, (World.cell?_setCell_far V _ _ _ hd3).trans hq.2.2.1, (World.cell?_setCell_far V _ _ _ hd2).trans hq.2.2.2.1, (World.cell?_setCell_far V _ _ _ hd4).trans hq.2.2.2.2.1, (World.cell?_setCell_far V _ _ _ hd4).trans hq.2.2.2.2.2.1, (World.cell?_setCell_far V _ _ _ hd4).trans hq.2.2.2.2.2.2.1, (World.cell?_setCell_far V _ _ _ hd4).trans hq.2.2.2.2.2.2.2⟩))
          have HG0 := Lib.hid (show wr.grownBy wr.drew (some cb) from ⟨rfl, rfl, rfl, Nat.le_refl _, fun _ _ _ => rfl⟩)
          clear hF hold hbelB hsh hcbw hcc hrow hocell hgl hgo' hnl hone2 hm hbje hnew hRAWW hone hxlen hbk hbB hBcb hBW hltW HF hbj r2' r3 r5 r6 r7 r8 r9 ro hb1 hb2 hb3 hb4 hszo hgoj
          go_wp2_with fail
          go_region_held2 (fun V => V.cell? ⟨go, j, none⟩ = some (.pointer (some ⟨bj, 0, none⟩)) ∧ V.cell? ⟨W.heap.size, 2, none⟩ = some (.slice (some ⟨bk, ok, none⟩) (2 * k) ck) ∧ V.cell? ⟨bk, ok + (2 * j + 1), none⟩ = some (.int .i64 kx) ∧ V.cell? ⟨W.heap.size, 3, none⟩ = some (.slice (some ⟨b, oo, none⟩) cs.length cc) ∧ V.cell? ⟨b, oo + j * 4, none⟩ = some (.int .i64 y0) ∧ V.cell? ⟨b, oo + j * 4 + 1, none⟩ = some (.int .i64 y1) ∧ V.cell? ⟨b, oo + j * 4 + 2, none⟩ = some (.slice A2 n2 d2) ∧ V.cell? ⟨b, oo + j * 4 + 3, none⟩ = some (.slice A3 n3 d3))
            (with_reducible (first | exact HSS.out _ HG0.out | exact HSS.out _ HG1.out | exact HEE.out _ _ _ (HSS.out _ HG1.out) | exact HEE.out _ _ _ (HEE.out _ _ _ (HEE.out _ _ _ (HSS.out _ HG1.out)))))
            ((go_at_call 48; refine HRAW.out.mono ?_; rintro e1 w1 ⟨rfl, hraw⟩; obtain ⟨hnx, hg1, z1, z2, z3, zf⟩ := HNX.out w1 hraw; have HG1 := Lib.hid hg1; have HN1 := Lib.hid hnx; clear hraw hnx hg1))
          go_wp2_with fail
          go_roundw
          case rel => exact ⟨j + 1, by omega, by go_num, HN1⟩
          case measure => simp [intOf]; omega
        · obtain rfl : j = k := by omega
          have HP := Lib.hid (HDN.out _ _ _ HF.out)
          go_wp2_with fail
          go_ret
          exact HP.out
end
end Go.Proofs.YtnolhcdfknjncaaDoor
