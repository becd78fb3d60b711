/-
  3 texts of this seat in one: V28 V29 V30.
-/
import Derived.Test.YtnolhcdfknjncaaDoorQR
import Derived.Test.YtnolhcdfknjncaaDoorQW
import Derived.Test.YtnolhcdfknjncaaDoorY20
import Derived.Deep.RegionLaw
/-
  The document's run: a call.
-/
set_option linter.unusedVariables false
set_option linter.unusedSimpArgs false
namespace Go.Proofs.YtnolhcdfknjncaaDoor
open Go.RowKit

section
variable {X Y Y' : Nat → Prop} {B mb cb n : Nat} {inp : List Int} {fuel : FL} {s s1 : St} {cut stk rai : Bool} {x0 x1 x2 : Value} {W W' W1 W2 W3 : World} {o : Out}
theorem cell_block {w : World} {b i : Nat} {cs : Array Value} {T : TypeId} {fr : Nat × Nat} {v : Value} (h : w.heap[b]? = some (.cells cs T fr)) (hi : cs[i]? = some v) : w.cell? ⟨b, i, none⟩ = some v := by
  simp [World.cell?, h, hi]
theorem below_al3 (w : World) (o p r : Obj) : Below w.heap.size w (((w.alloc o).alloc p).alloc r) := (below_al2 w o p).alloc (below_al2 w o p).size r
set_option maxRecDepth 100000 in
set_option maxHeartbeats 2000000 in
theorem rcall_any (hok : RTermOk B mb cb inp n) (h : RGo X B mb cb inp fuel s W) (hX : ∀ k, X k → k < W.heap.size) {f a : PV} {f0 f1 f2 a0 a1 a2 : Value} (hf : VIn X s.fns.length s.cells.length W f f0 f1 f2) (ha : VIn X s.fns.length s.cells.length W a a0 a1 a2) (hn : s.left < n) :
    Calls Tryd.prog 73 #[.pointer (some ⟨cb, 0, none⟩), .agg #[f0, f1, f2], .agg #[a0, a1, a2]] W (ROut X B mb cb inp fuel s (callP (ev inp n) f a s) W) := by
  obtain ⟨k1, n1, A1, l1, d1, rfl, rfl, rfl, -, -, -, -, hfn, hnf⟩ := hf.one_
  obtain ⟨k2, n2, A2, l2, d2, rfl, rfl, rfl⟩ := ha.shape
  have hb0 := below_al3 W (.cells #[.int .i64 k1, .int .i64 n1, .slice A1 l1 d1] 65) (.cells #[.int .i64 k2, .int .i64 n2, .slice A2 l2 d2] 65) (.cells #[.int .i64 0, .int .i64 0, .slice none 0 0] 65)
  have hq1 : ((W.alloc (.cells #[.int .i64 k1, .int .i64 n1, .slice A1 l1 d1] 65)).alloc (.cells #[.int .i64 k2, .int .i64 n2, .slice A2 l2 d2] 65)).heap[W.heap.size]? = _ := ((below_al1 _ _).block W.heap.size (by simp)).trans (new1 W _)
  replace hq1 := ((below_al1 _ (.cells #[.int .i64 0, .int .i64 0, .slice none 0 0] 65)).block W.heap.size (by simp; omega)).trans hq1
  have hq2 := ((below_al1 _ (.cells #[.int .i64 0, .int .i64 0, .slice none 0 0] 65)).block (W.heap.size + 1) (by simp)).trans (new2 W (.cells #[.int .i64 k1, .int .i64 n1, .slice A1 l1 d1] 65) (.cells #[.int .i64 k2, .int .i64 n2, .slice A2 l2 d2] 65))
  have hbx := new3 W (.cells #[.int .i64 k1, .int .i64 n1, .slice A1 l1 d1] 65) (.cells #[.int .i64 k2, .int .i64 n2, .slice A2 l2 d2] 65) (.cells #[.int .i64 0, .int .i64 0, .slice none 0 0] 65)
  generalize hV0 : (((W.alloc (.cells #[.int .i64 k1, .int .i64 n1, .slice A1 l1 d1] 65)).alloc (.cells #[.int .i64 k2, .int .i64 n2, .slice A2 l2 d2] 65)).alloc (.cells #[.int .i64 0, .int .i64 0, .slice none 0 0] 65)) = V0 at *
  have hsz : W.heap.size + 1 + 1 < V0.heap.size := (Array.getElem?_eq_some_iff.1 hbx).1
  have hg0 : RGo (Bx X (W.heap.size + 1 + 1)) B mb cb inp fuel s V0 := (RIn.bx h (by omega)).below hb0
  have ha0 := (ha.bx (b := W.heap.size + 1 + 1) (by omega)).step (KpX.below hb0) (Nat.le_refl _) (Nat.le_refl _)
  have HS := Lib.hid ((rstop_any hg0).mono fun e w' hp => ROut.box (W := W) (b := W.heap.size + 1 + 1) h.hX h.hBW (own_lt h) (by omega) hbx (Stp.below hb0 h.hBW) ⟨Nat.le_refl _, Nat.le_refl _⟩ (ROut.stop hp))
  have u0 : V0.cell? ⟨W.heap.size, 0, none⟩ = some (.int .i64 k1) := by simp [World.cell?, hq1]
  have u1 : V0.cell? ⟨W.heap.size, 1, none⟩ = some (.int .i64 n1) := by simp [World.cell?, hq1]
  have v0 : V0.cell? ⟨W.heap.size + 1, 0, none⟩ = some (.int .i64 k2) := by simp [World.cell?, hq2]
  have v1 : V0.cell? ⟨W.heap.size + 1, 1, none⟩ = some (.int .i64 n2) := by simp [World.cell?, hq2]
  have v2 : V0.cell? ⟨W.heap.size + 1, 2, none⟩ = some (.slice A2 l2 d2) := by simp [World.cell?, hq2]
  have mc := hg0.cells.2.2.2.2.2.2.2.2.2.2
  obtain ⟨o, ho⟩ : ∃ o, callP (ev inp n) f a s = o := ⟨_, rfl⟩
  rw [ho]
  by_cases hk : k1 = 3
  · subst hk
    obtain ⟨i, hi, hin, rfl⟩ := hfn rfl
    obtain ⟨Af, cf, hcb, hcf, hfr⟩ := hg0.c
    obtain ⟨bf, of, e1, e2, e3, e4, e5, rfl, d0, d1', d2', d3, d4, d5, hcore, hsm, henv⟩ := hfr.at_ hin
    obtain ⟨pq, rfl⟩ := henv.shape
    obtain ⟨ck, cn, Ak, lk, dk, Ac, lc, dc, hsh⟩ := hcore.shape
    simp only [Array.mk.injEq, List.cons.injEq, and_true] at hsh
    obtain ⟨rfl, rfl, rfl, rfl⟩ := hsh
    have hcb1 : V0.cell? ⟨cb, 1, none⟩ = some (.slice (some ⟨bf, of, none⟩) s.fns.length cf) := by simp [World.cell?, hcb]
    have HT := Lib.hid (fun (V : World) (hb : Below V0.heap.size V0 V) => (show Calls Tryd.prog 28 #[.pointer (some ⟨cb, 0, none⟩), .agg #[.int .i64 ck, .int .i64 cn, .slice Ak lk dk, .slice Ac lc dc], .pointer (some ⟨V.heap.size, 0, none⟩)] (V.alloc (.cells #[.int .i64 s.fns[i].param, .int .i64 k2, .int .i64 n2, .slice A2 l2 d2, .pointer pq] 111)) _ from
      (hok (Bx X (W.heap.size + 1 + 1)) fuel s _ s.fns[i].body _ _ _ _ ((s.fns[i].param, a) :: s.fns[i].env) _ (hg0.below (hb.alloc hb.size _)) (fun k hk => by
        have := hb.size
        rcases hk with hk | hk
        · have := hX k hk; simp; omega
        · simp; omega) (hcore.kept ((hb.alloc hb.size _).mono hg0.hBW)) hsm (by
          have hnb := new1 V (.cells #[.int .i64 s.fns[i].param, .int .i64 k2, .int .i64 n2, .slice A2 l2 d2, .pointer pq] 111)
          have hks := KpX.below (X := Bx X (W.heap.size + 1 + 1)) (hb.alloc hb.size (.cells #[.int .i64 s.fns[i].param, .int .i64 k2, .int .i64 n2, .slice A2 l2 d2, .pointer pq] 111))
          refine EIn.cons _ _ _ V.heap.size (.int .i64 k2) (.int .i64 n2) (.slice A2 l2 d2) (.pointer pq) (fun hx => by
            have := hb.size
            rcases hx with hx | hx
            · have := hX _ hx; omega
            · omega) ?_ ?_ ?_ ?_ ?_ (ha0.step hks (Nat.le_refl _) (Nat.le_refl _)) (henv.step hks (Nat.le_refl _) (Nat.le_refl _))
          all_goals exact cell_block hnb rfl) hn).mono fun e w' hp => ROut.box (X := X) (W := W) (b := W.heap.size + 1 + 1) h.hX h.hBW (own_lt h) (by omega) (((hb.alloc hb.size _).block _ hsz).trans hbx) (Stp.below (hb0.trans ((hb.alloc hb.size _).mono hb0.size)) h.hBW) ⟨Nat.le_refl _, Nat.le_refl _⟩ hp))
    have hoo : callP (ev inp n) f a s = ev inp n s.fns[i].body ((s.fns[i].param, a) :: s.fns[i].env) s := by
      rw [hi]
      simp only [callP, List.getElem?_eq_getElem hin, Option.getD_some]
    rw [← hoo, ho] at HT
    have hs1 : W.heap.size < V0.heap.size := by omega
    have hs2 : W.heap.size + 1 < V0.heap.size := by omega
    have hs3 : cb < V0.heap.size := (own_lt hg0).2
    have hs4 : bf < V0.heap.size := lt_of_cell d0
    have hi0 : (0 : Int) ≤ (i : Int) := by omega
    have hil : (i : Int) < (s.fns.length : Int) := by omega
    clear h hX hf ha hb0 hq1 hq2 hbx hg0 ha0 hfn hnf ho hoo hi hcb hcf hfr hcore hsm henv HS hn hok
    generalize s.fns[i].param = fp at *
    generalize s.fns.length = fl at *
    clear hin
    have HB0 := Lib.hid (show Below V0.heap.size V0 V0.drew from (Below.refl _ _).drew)
    go_enter Tryd.func73, Tryd.ntmps73
    go_wp2_with fail
    go_region
    all_goals
      have hnb := new1 V0 (.cells #[.int .i64 fp, .int .i64 ck, .int .i64 cn, .slice Ak lk dk, .slice Ac lc dc, .pointer pq] 108)
      have hbv : Below V0.heap.size V0 (V0.alloc (.cells #[.int .i64 fp, .int .i64 ck, .int .i64 cn, .slice Ak lk dk, .slice Ac lc dc, .pointer pq] 108)).drew := (below_al1 V0 _).drew
      have w1 := cell_behind hbv v0
      have w2 := cell_behind hbv v1
      have w3 := cell_behind hbv v2
      have w4 := cell_behind hbv mc
      have t0 : (V0.alloc (.cells #[.int .i64 fp, .int .i64 ck, .int .i64 cn, .slice Ak lk dk, .slice Ac lc dc, .pointer pq] 108)).drew.cell? ⟨V0.heap.size, 0, none⟩ = some (.int .i64 fp) := cell_block hnb rfl
      have t1 : (V0.alloc (.cells #[.int .i64 fp, .int .i64 ck, .int .i64 cn, .slice Ak lk dk, .slice Ac lc dc, .pointer pq] 108)).drew.cell? ⟨V0.heap.size, 1, none⟩ = some (.int .i64 ck) := cell_block hnb rfl
      have t2 : (V0.alloc (.cells #[.int .i64 fp, .int .i64 ck, .int .i64 cn, .slice Ak lk dk, .slice Ac lc dc, .pointer pq] 108)).drew.cell? ⟨V0.heap.size, 2, none⟩ = some (.int .i64 cn) := cell_block hnb rfl
      have t3 : (V0.alloc (.cells #[.int .i64 fp, .int .i64 ck, .int .i64 cn, .slice Ak lk dk, .slice Ac lc dc, .pointer pq] 108)).drew.cell? ⟨V0.heap.size, 3, none⟩ = some (.slice Ak lk dk) := cell_block hnb rfl
      have t4 : (V0.alloc (.cells #[.int .i64 fp, .int .i64 ck, .int .i64 cn, .slice Ak lk dk, .slice Ac lc dc, .pointer pq] 108)).drew.cell? ⟨V0.heap.size, 4, none⟩ = some (.slice Ac lc dc) := cell_block hnb rfl
      have t5 : (V0.alloc (.cells #[.int .i64 fp, .int .i64 ck, .int .i64 cn, .slice Ak lk dk, .slice Ac lc dc, .pointer pq] 108)).drew.cell? ⟨V0.heap.size, 5, none⟩ = some (.pointer pq) := cell_block hnb rfl
      have HTT := Lib.hid (HT.out _ hbv)
      clear hnb hbv HT v0 v1 v2 mc u0 u1 hcb1 d0 d1' d2' d3 d4 d5 HB0
      generalize (V0.alloc (.cells #[.int .i64 fp, .int .i64 ck, .int .i64 cn, .slice Ak lk dk, .slice Ac lc dc, .pointer pq] 108)).drew = V at *
      go_wp2_with (go_at_call 28; refine HTT.out.mono ?_; rintro e w' ⟨k, n, A, l, d, rfl, ⟨f0, f1, f2, ff⟩, hR⟩; have HR := Lib.hid hR; clear hR)
      exact bodyPost_ret (v := .agg #[.int .i64 k, .int .i64 n, .slice A l d]) (by simp [results, Tryd.results73, go_sem, f0, f1, f2]) rfl HR.out
  · obtain rfl : o = (.stuck, s) := by
      rw [← ho]
      have := hnf hk
      unfold callP
      split
      · rename_i i; exact absurd rfl (this i)
      · rfl
    have hk4 : (k1 == 3) = false := by simpa using hk
    have hk5 : (k1 != 3) = true := by simpa using hk
    clear h hX hf ha hb0 hq1 hq2 hbx hg0 ha0 hfn hnf ho hk hn hok
    go_enter Tryd.func73, Tryd.ntmps73
    go_wp2_with (go_at_call 46; refine HS.out.mono ?_; rintro e w' ⟨k, n, A, l, d, rfl, ⟨f0, f1, f2, ff⟩, hR⟩; have HR := Lib.hid hR; clear hR)
    exact bodyPost_ret (v := .agg #[.int .i64 k, .int .i64 n, .slice A l d]) (by simp [results, Tryd.results73, go_sem, f0, f1, f2]) rfl HR.out
end
end Go.Proofs.YtnolhcdfknjncaaDoor

/-
  The document's run: what is done with the Kids' values.
-/
set_option linter.unusedVariables false
set_option linter.unusedSimpArgs false
namespace Go.Proofs.YtnolhcdfknjncaaDoor
open Go.RowKit

section
variable {X Y Y' : Nat → Prop} {B mb cb n : Nat} {inp : List Int} {fuel : FL} {s s1 : St} {cut stk rai : Bool} {x0 x1 x2 : Value} {W W' W1 W2 W3 : World} {o : Out}
theorem frame2 (h : RGo X B mb cb inp fuel s W) {k n : Int} {Ak Ac : Option Addr} {lk ck lc cc : Nat} (V0 : World) (hV0 : ((W.alloc (.cells #[.int .i64 k, .int .i64 n, .slice Ak lk ck, .slice Ac lc cc] 26)).alloc (.cells #[.int .i64 0, .int .i64 0, .slice none 0 0] 65)) = V0) :
    Below W.heap.size W V0 ∧ V0.heap[W.heap.size]? = some (.cells #[.int .i64 k, .int .i64 n, .slice Ak lk ck, .slice Ac lc cc] 26 (0, 0)) ∧ V0.heap[W.heap.size + 1]? = some (.cells #[.int .i64 0, .int .i64 0, .slice none 0 0] 65 (0, 0)) ∧ RGo (Bx X (W.heap.size + 1)) B mb cb inp fuel s V0 ∧ W.heap.size + 1 < V0.heap.size := by
  have hb0 := below_al2 W (.cells #[.int .i64 k, .int .i64 n, .slice Ak lk ck, .slice Ac lc cc] 26) (.cells #[.int .i64 0, .int .i64 0, .slice none 0 0] 65)
  have h1 := ((below_al1 _ (.cells #[.int .i64 0, .int .i64 0, .slice none 0 0] 65)).block W.heap.size (by simp)).trans (new1 W (.cells #[.int .i64 k, .int .i64 n, .slice Ak lk ck, .slice Ac lc cc] 26))
  have h2 := new2 W (.cells #[.int .i64 k, .int .i64 n, .slice Ak lk ck, .slice Ac lc cc] 26) (.cells #[.int .i64 0, .int .i64 0, .slice none 0 0] 65)
  rw [hV0] at hb0 h1 h2
  exact ⟨hb0, h1, h2, (RIn.bx h (by omega)).below hb0, (Array.getElem?_eq_some_iff.1 h2).1⟩
theorem bx_lt (hX : ∀ k, X k → k < W.heap.size) {b : Nat} {V0 : World} (h1 : W.heap.size ≤ V0.heap.size) (hb : b < V0.heap.size) : ∀ k, Bx X b k → k < V0.heap.size := fun k hk => by
  rcases hk with hk | hk
  · have := hX k hk; omega
  · omega
set_option maxRecDepth 100000 in
set_option maxHeartbeats 2000000 in
theorem does_app (hok : RTermOk B mb cb inp n) (h : RGo X B mb cb inp fuel s W) (hX : ∀ k, X k → k < W.heap.size) {nn : Int} {Ak Ac A : Option Addr} {lk ck lc cc c : Nat} {l : List PV} (hv : VRow X s.fns.length s.cells.length W A l) (hl : 1 < l.length) (hn : s.left < n) :
    Calls Tryd.prog 54 #[.pointer (some ⟨cb, 0, none⟩), .agg #[.int .i64 4, .int .i64 nn, .slice Ak lk ck, .slice Ac lc cc], .slice A l.length c] W (ROut X B mb cb inp fuel s (callP (ev inp n) l[0] l[1] s) W) := by
  generalize hV0 : ((W.alloc (.cells #[.int .i64 4, .int .i64 nn, .slice Ak lk ck, .slice Ac lc cc] 26)).alloc (.cells #[.int .i64 0, .int .i64 0, .slice none 0 0] 65)) = V0
  obtain ⟨hb0, hq, hbx, hg0, hsz⟩ := frame2 h V0 hV0
  have hv0 := (hv.bx (b := W.heap.size + 1) (by omega)).step (KpX.below hb0) (Nat.le_refl _) (Nat.le_refl _)
  obtain ⟨bb, oo, a0, a1, a2, rfl, c0, c1, c2, hsub⟩ := hv0.at_ (show 0 < l.length by omega)
  obtain ⟨bb', oo', b0, b1, b2, he, d0, d1, d2, hsub2⟩ := hv0.at_ hl
  simp only [Option.some.injEq, Addr.mk.injEq, and_true] at he
  obtain ⟨rfl, rfl⟩ := he
  simp only [Nat.zero_mul, Nat.add_zero, Nat.one_mul] at c0 c1 c2 d0 d1 d2
  have hkd := KpX.below (X := Bx X (W.heap.size + 1)) ((Below.refl V0.heap.size V0).drew)
  have HT := Lib.hid ((rcall_any hok (hg0.below (Below.refl _ _).drew) (bx_lt hX hb0.size hsz) (hsub.step hkd (Nat.le_refl _) (Nat.le_refl _)) (hsub2.step hkd (Nat.le_refl _) (Nat.le_refl _)) hn).mono fun e w' hp => ROut.box (X := X) (W := W) (W1 := V0.drew) (b := W.heap.size + 1) h.hX h.hBW (own_lt h) (by omega) hbx (Stp.below hb0.drew h.hBW) ⟨Nat.le_refl _, Nat.le_refl _⟩ hp)
  obtain ⟨k1, n1, A1, l1, d1', rfl, rfl, rfl⟩ := hsub.shape
  obtain ⟨k2, n2, A2, l2, d2', rfl, rfl, rfl⟩ := hsub2.shape
  have q0 : V0.cell? ⟨W.heap.size, 0, none⟩ = some (.int .i64 4) := cell_block hq rfl
  generalize callP (ev inp n) l[0] l[1] s = o at *
  have hkl0 : 0 < l.length := by omega
  clear h hX hv hb0 hq hbx hg0 hsz hv0 hsub hsub2 hok hn hkd
  have hll : (0 : Int) < (l.length : Int) := by omega
  have hll1 : (1 : Int) < (l.length : Int) := by omega
  generalize l.length = kl at *
  go_enter Tryd.func54, Tryd.ntmps54
  go_wp2_with fail
  go_region_law ((first
    | (go_simp; go_at_call 73; refine HT.out.mono ?_; rintro e w' ⟨k, n, A, l, d, rfl, ⟨f0, f1, f2, ff⟩, hR⟩; have HR := Lib.hid hR; clear hR)))
  all_goals
    go_wp2_with fail
    exact bodyPost_ret (v := .agg #[.int .i64 k, .int .i64 n, .slice A l d]) (by simp [results, Tryd.results54, go_sem, f0, f1, f2]) rfl HR.out
end
end Go.Proofs.YtnolhcdfknjncaaDoor

/-
  The document's run: what is done with the Kids' values: a block, a field, a primitive.
-/
set_option linter.unusedVariables false
set_option linter.unusedSimpArgs false
namespace Go.Proofs.YtnolhcdfknjncaaDoor
open Go.RowKit

section
variable {X Y Y' : Nat → Prop} {B mb cb n : Nat} {inp : List Int} {fuel : FL} {s s1 : St} {cut stk rai : Bool} {x0 x1 x2 : Value} {W W' W1 W2 W3 : World} {o : Out}
set_option maxRecDepth 100000 in
set_option maxHeartbeats 2000000 in
theorem does_block (h : RGo X B mb cb inp fuel s W) {nn : Int} {Ak Ac A : Option Addr} {lk ck lc cc c : Nat} {l : List PV} (hv : VRow X s.fns.length s.cells.length W A l) (hc : l.length ≤ c) (hl : l.length ≤ 1000000) :
    Calls Tryd.prog 54 #[.pointer (some ⟨cb, 0, none⟩), .agg #[.int .i64 7, .int .i64 nn, .slice Ak lk ck, .slice Ac lc cc], .slice A l.length c] W (ROut X B mb cb inp fuel s (.val (.blk nn l), s) W) := by
  have hb0 := below_al2 W (.cells #[.int .i64 7, .int .i64 nn, .slice Ak lk ck, .slice Ac lc cc] 26) (.cells #[.int .i64 2, .int .i64 nn, .slice A l.length c] 65)
  have HP := Lib.hid (show ROut X B mb cb inp fuel s (.val (.blk nn l), s) W (.returned (.agg #[.int .i64 2, .int .i64 nn, .slice A l.length c])) _ from
    ⟨Stp.below hb0 h.hBW, ⟨Nat.le_refl _, Nat.le_refl _⟩, _, _, _, _, _, rfl, h.below hb0, (hv.step (KpX.below hb0) (Nat.le_refl _) (Nat.le_refl _)).val hc hl⟩)
  generalize ((.val (.blk nn l), s) : Out) = o at *
  clear h hv hb0 hc hl
  generalize l.length = kl at *
  go_enter Tryd.func54, Tryd.ntmps54
  go_wp2_with fail
  exact bodyPost_ret (v := .agg #[.int .i64 2, .int .i64 nn, .slice A kl c]) (by simp [results, Tryd.results54, go_sem]) rfl HP.out
set_option maxRecDepth 100000 in
set_option maxHeartbeats 2000000 in
theorem does_field (h : RGo X B mb cb inp fuel s W)  {nn : Int} (hnn : 0 ≤ nn) {Ak Ac A : Option Addr} {lk ck lc cc c : Nat} {l : List PV} (hv : VRow X s.fns.length s.cells.length W A l) (hl : 0 < l.length) :
    Calls Tryd.prog 54 #[.pointer (some ⟨cb, 0, none⟩), .agg #[.int .i64 8, .int .i64 nn, .slice Ak lk ck, .slice Ac lc cc], .slice A l.length c] W (ROut X B mb cb inp fuel s (fieldO l[0] nn s) W) := by
  generalize hV0 : ((W.alloc (.cells #[.int .i64 8, .int .i64 nn, .slice Ak lk ck, .slice Ac lc cc] 26)).alloc (.cells #[.int .i64 0, .int .i64 0, .slice none 0 0] 65)) = V0
  obtain ⟨hb0, hq, hbx, hg0, hsz⟩ := frame2 h V0 hV0
  have hv0 := (hv.bx (b := W.heap.size + 1) (by omega)).step (KpX.below hb0) (Nat.le_refl _) (Nat.le_refl _)
  obtain ⟨bb, oo, a0, a1, a2, rfl, c0, c1, c2, hsub⟩ := hv0.at_ hl
  simp only [Nat.zero_mul, Nat.add_zero] at c0 c1 c2
  have hkd := KpX.below (X := Bx X (W.heap.size + 1)) ((Below.refl V0.heap.size V0).drew)
  have HT := Lib.hid ((rfield_any (hg0.below (Below.refl _ _).drew) (hsub.step hkd (Nat.le_refl _) (Nat.le_refl _)) nn hnn).mono fun e w' hp => ROut.box (X := X) (W := W) (W1 := V0.drew) (b := W.heap.size + 1) h.hX h.hBW (own_lt h) (by omega) hbx (Stp.below hb0.drew h.hBW) ⟨Nat.le_refl _, Nat.le_refl _⟩ hp)
  obtain ⟨k1, n1, A1, l1, d1', rfl, rfl, rfl⟩ := hsub.shape
  have q0 : V0.cell? ⟨W.heap.size, 0, none⟩ = some (.int .i64 8) := cell_block hq rfl
  have q1 : V0.cell? ⟨W.heap.size, 1, none⟩ = some (.int .i64 nn) := cell_block hq rfl
  have mc := hg0.cells.2.2.2.2.2.2.2.2.2.2
  generalize (fieldO l[0] nn s) = o at *
  have hkl0 : 0 < l.length := hl
  have hll : (0 : Int) < (l.length : Int) := by omega
  clear h hv hb0 hq hbx hg0 hsz hv0 hkd hl hsub
  generalize l.length = kl at *
  go_enter Tryd.func54, Tryd.ntmps54
  go_wp2_with fail
  go_region_law ((first
    | (go_simp; go_at_call 74; refine HT.out.mono ?_; rintro e w' ⟨k, n, A, l, d, rfl, ⟨f0, f1, f2, ff⟩, hR⟩; have HR := Lib.hid hR; clear hR)))
  all_goals
    go_wp2_with fail
    exact bodyPost_ret (v := .agg #[.int .i64 k, .int .i64 n, .slice A l d]) (by simp [results, Tryd.results54, go_sem, f0, f1, f2]) rfl HR.out
set_option maxRecDepth 100000 in
set_option maxHeartbeats 2000000 in
theorem does_prim (h : RGo X B mb cb inp fuel s W) (hlim : fuel.lim < fuel.f) (hX : ∀ k, X k → k < W.heap.size) (rec : Core → PEnv → St → Out) {nn : Int} (hp1 : 1 ≤ nn) (hp2 : nn ≤ 15) {Ak Ac A : Option Addr} {lk ck lc cc c : Nat} {l : List PV} (hv : VRow X s.fns.length s.cells.length W A l) (hl : l.length = if two nn then 2 else 1) :
    Calls Tryd.prog 54 #[.pointer (some ⟨cb, 0, none⟩), .agg #[.int .i64 10, .int .i64 nn, .slice Ak lk ck, .slice Ac lc cc], .slice A l.length c] W (ROut X B mb cb inp fuel.up s (primP inp rec nn l s) W) := by
  generalize hV0 : ((W.alloc (.cells #[.int .i64 10, .int .i64 nn, .slice Ak lk ck, .slice Ac lc cc] 26)).alloc (.cells #[.int .i64 0, .int .i64 0, .slice none 0 0] 65)) = V0
  obtain ⟨hb0, hq, hbx, hg0, hsz⟩ := frame2 h V0 hV0
  have hv0 := (hv.bx (b := W.heap.size + 1) (by omega)).step (KpX.below hb0) (Nat.le_refl _) (Nat.le_refl _)
  have hkd := KpX.below (X := Bx X (W.heap.size + 1)) ((Below.refl V0.heap.size V0).drew)
  have HT := Lib.hid ((rprim_any (c := c) (hg0.below (Below.refl _ _).drew) hlim (bx_lt hX hb0.size hsz) (hv0.step hkd (Nat.le_refl _) (Nat.le_refl _)) rec hp1 hp2 hl).mono fun e w' hp => ROut.box (X := X) (W := W) (W1 := V0.drew) (b := W.heap.size + 1) h.hX h.hBW (own_lt h) (by omega) hbx (Stp.below hb0.drew h.hBW) ⟨Nat.le_refl _, Nat.le_refl _⟩ hp)
  have q0 : V0.cell? ⟨W.heap.size, 0, none⟩ = some (.int .i64 10) := cell_block hq rfl
  have q1 : V0.cell? ⟨W.heap.size, 1, none⟩ = some (.int .i64 nn) := cell_block hq rfl
  have mc := hg0.cells.2.2.2.2.2.2.2.2.2.2
  generalize (primP inp rec nn l s) = o at *
  clear h hv hb0 hq hbx hg0 hsz hv0 hkd hl hX
  generalize l.length = kl at *
  have hne : (nn == 16) = false := by simp; omega
  have hne2 : (nn != 16) = true := by simp; omega
  go_enter Tryd.func54, Tryd.ntmps54
  go_wp2_with fail
  go_region_law ((first
    | (go_simp; go_at_call 75; refine HT.out.mono ?_; rintro e w' ⟨k, n, A, l, d, rfl, ⟨f0, f1, f2, ff⟩, hR⟩; have HR := Lib.hid hR; clear hR)))
  all_goals
    go_wp2_with fail
    exact bodyPost_ret (v := .agg #[.int .i64 k, .int .i64 n, .slice A l d]) (by simp [results, Tryd.results54, go_sem, f0, f1, f2]) rfl HR.out
end
end Go.Proofs.YtnolhcdfknjncaaDoor
