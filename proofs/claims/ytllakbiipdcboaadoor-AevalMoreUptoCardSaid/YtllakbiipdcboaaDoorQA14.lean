/-
  3 texts of this seat in one: PB7 PM0 PM00.
-/
import Derived.Test.YtllakbiipdcboaaDoorQA13
import Derived.Deep.RegionHeld2
/-
  aeval.Run's contract in one word; knows: the chapter's example.
-/
set_option linter.unusedVariables false
set_option linter.unusedSimpArgs false
namespace Go.Proofs.YtllakbiipdcboaaDoor
open Go.RowKit

def Ready (w : World) : Prop := ShapesIn w.heap.size w
theorem Ready.below {w w' : World} (h : Ready w) (hb : Below w.heap.size w w') : Ready w' := shapes_at (h.kept hb) hb.size
/-- a run in one word -/
def RunPost (pe : PEnd) (w : World) (e : Ending) (w' : World) : Prop := ∃ v A c, v = .agg #[.int .i64 pe.kind, .int .i64 pe.n, .slice A pe.out.length c, .int .i64 pe.steps] ∧ e = .returned v ∧ EndV w' pe v ∧ Below w.heap.size w w' ∧ (∀ a, A = some a → w.heap.size ≤ a.block)
theorem run_ready {w : World} (hr : Ready w) {t : Anf} {v : Array Value} (hin : BodyIn w.heap.size w t v) (hh : t.hgt ≤ 50000) {inp : List Int} {Ai : Option Addr} {ci : Nat} (hi : IntsIn w.heap.size w Ai inp) (hci : inp.length ≤ ci) (f : Int) :
    Calls Tryd.prog 6 #[.agg v, .slice Ai inp.length ci, .int .i64 f] w (RunPost (runE t inp f) w) := by
  refine (run_any hin (Nat.le_refl _) hr (fun B W v h1 h2 h3 => right_any W h1 h2 h3 (by omega)) hi hci f).mono fun e w' ⟨A, c, h1, h2, h3, h5, h4⟩ => ⟨_, A, c, rfl, h1, ⟨A, c, rfl, h2⟩, h4, h5⟩

/-- the chapter's example -/
def kbody : Anf := .bind 3 2 1 [⟨true, 1⟩, ⟨false, 1⟩] [] [] (.ret ⟨true, 3⟩)
def kterm : Anf := .bind 0 5 1 [] [] [kbody] (.bind 2 6 0 [⟨true, 0⟩, ⟨false, 4⟩] [] [] (.bind 4 2 13 [⟨true, 2⟩] [] [] (.ret ⟨false, 0⟩)))
theorem know1 : runE kterm [] 99 = ⟨1, 0, [5], 5⟩ := by kernel_rfl


set_option maxRecDepth 100000 in
set_option maxHeartbeats 1000000 in
theorem mkvar_any (n : Int) (w : World) : Calls Tryd.prog 12 #[.int .i64 n] w fun e w' => e = .returned (.agg #[.bool true, .int .i64 n]) ∧ Below w.heap.size w w' := by
  go_enter Tryd.func12, Tryd.ntmps12
  go_wp2_with fail
  have hb : Below w.heap.size w (w.alloc (.cells #[.bool true, .int .i64 n] 24)) := (Below.refl _ _).alloc (Nat.le_refl _) _
  exact bodyPost_ret (v := .agg #[.bool true, .int .i64 n]) (by simp [results, Tryd.results12, go_sem]) rfl ⟨rfl, hb⟩
set_option maxRecDepth 100000 in
set_option maxHeartbeats 1000000 in
theorem mkint_any (n : Int) (w : World) : Calls Tryd.prog 13 #[.int .i64 n] w fun e w' => e = .returned (.agg #[.bool false, .int .i64 n]) ∧ Below w.heap.size w w' := by
  go_enter Tryd.func13, Tryd.ntmps13
  go_wp2_with fail
  have hb : Below w.heap.size w (w.alloc (.cells #[.bool false, .int .i64 n] 24)) := (Below.refl _ _).alloc (Nat.le_refl _) _
  exact bodyPost_ret (v := .agg #[.bool false, .int .i64 n]) (by simp [results, Tryd.results13, go_sem]) rfl ⟨rfl, hb⟩
set_option maxRecDepth 100000 in
set_option maxHeartbeats 1000000 in
theorem mkbind_any (v p : Int) (A : Option Addr) (n c : Nat) (w : World) : Calls Tryd.prog 11 #[.int .i64 v, .int .i64 p, .slice A n c] w fun e w' => e = .returned (.agg #[.int .i64 v, .int .i64 2, .int .i64 p, .slice A n c, .slice none 0 0, .slice none 0 0]) ∧ Below w.heap.size w w' := by
  go_enter Tryd.func11, Tryd.ntmps11
  go_wp2_with fail
  have hb : Below w.heap.size w (w.alloc (.cells #[.int .i64 v, .int .i64 2, .int .i64 p, .slice A n c, .slice none 0 0, .slice none 0 0] 45)) := (Below.refl _ _).alloc (Nat.le_refl _) _
  exact bodyPost_ret (v := .agg #[.int .i64 v, .int .i64 2, .int .i64 p, .slice A n c, .slice none 0 0, .slice none 0 0]) (by simp [results, Tryd.results11, go_sem]) rfl ⟨rfl, hb⟩
theorem heap4 (w : World) (a b c d : Obj) : ((((w.alloc a).alloc b).alloc c).alloc d).heap[w.heap.size + 1 + 1 + 1]? = some d := by
  have := World.alloc_heap_new (((w.alloc a).alloc b).alloc c) d
  rw [World.size_alloc, World.size_alloc, World.size_alloc] at this
  exact this
set_option maxRecDepth 100000 in
set_option maxHeartbeats 1000000 in
theorem mkapp_any (v : Int) (x y : Bool) (m n : Int) (w : World) : Calls Tryd.prog 15 #[.int .i64 v, .agg #[.bool x, .int .i64 m], .agg #[.bool y, .int .i64 n]] w fun e w' =>
    ∃ g, e = .returned (.agg #[.int .i64 v, .int .i64 6, .int .i64 0, .slice (some ⟨g, 0, none⟩) 2 2, .slice none 0 0, .slice none 0 0]) ∧ w.heap.size ≤ g ∧ w'.heap[g]? = some (.cells #[.bool x, .int .i64 m, .bool y, .int .i64 n] 24) ∧ Below w.heap.size w w' := by
  go_enter Tryd.func15, Tryd.ntmps15
  go_wp2_with fail
  have hb : Below w.heap.size w ((((w.alloc (.cells #[.bool x, .int .i64 m] 24)).alloc (.cells #[.bool y, .int .i64 n] 24)).alloc (.cells #[.int .i64 v, .int .i64 6, .int .i64 0, .slice (some ⟨w.heap.size + 1 + 1 + 1, 0, none⟩) 2 2, .slice none 0 0, .slice none 0 0] 45)).alloc (.cells #[.bool x, .int .i64 m, .bool y, .int .i64 n] 24)) :=
    ((((Below.refl _ _).alloc (Nat.le_refl _) _).alloc (by simp) _).alloc (by simp; omega) _).alloc (by simp; omega) _
  exact bodyPost_ret (v := .agg #[.int .i64 v, .int .i64 6, .int .i64 0, .slice (some ⟨w.heap.size + 1 + 1 + 1, 0, none⟩) 2 2, .slice none 0 0, .slice none 0 0]) (by simp [results, Tryd.results15, go_sem]) rfl ⟨_, rfl, by omega, heap4 _ _ _ _ _, hb⟩
set_option maxRecDepth 100000 in
set_option maxHeartbeats 1000000 in
theorem mkfn_any (v p : Int) (A : Option Addr) (n c : Nat) (x : Bool) (m : Int) (w : World) : Calls Tryd.prog 14 #[.int .i64 v, .int .i64 p, .agg #[.slice A n c, .bool x, .int .i64 m]] w fun e w' =>
    ∃ g, e = .returned (.agg #[.int .i64 v, .int .i64 5, .int .i64 p, .slice none 0 0, .slice none 0 0, .slice (some ⟨g, 0, none⟩) 1 1]) ∧ w.heap.size ≤ g ∧ w'.heap[g]? = some (.cells #[.slice A n c, .bool x, .int .i64 m] 26) ∧ Below w.heap.size w w' := by
  go_enter Tryd.func14, Tryd.ntmps14
  go_wp2_with fail
  have hb : Below w.heap.size w (((w.alloc (.cells #[.slice A n c, .bool x, .int .i64 m] 26)).alloc (.cells #[.int .i64 v, .int .i64 5, .int .i64 p, .slice none 0 0, .slice none 0 0, .slice (some ⟨w.heap.size + 1 + 1, 0, none⟩) 1 1] 45)).alloc (.cells #[.slice A n c, .bool x, .int .i64 m] 26)) :=
    (((Below.refl _ _).alloc (Nat.le_refl _) _).alloc (by simp) _).alloc (by simp; omega) _
  have hg : (((w.alloc (.cells #[.slice A n c, .bool x, .int .i64 m] 26)).alloc (.cells #[.int .i64 v, .int .i64 5, .int .i64 p, .slice none 0 0, .slice none 0 0, .slice (some ⟨w.heap.size + 1 + 1, 0, none⟩) 1 1] 45)).alloc (.cells #[.slice A n c, .bool x, .int .i64 m] 26)).heap[w.heap.size + 1 + 1]? = some (.cells #[.slice A n c, .bool x, .int .i64 m] 26) := by
    have := World.alloc_heap_new ((w.alloc (.cells #[.slice A n c, .bool x, .int .i64 m] 26)).alloc (.cells #[.int .i64 v, .int .i64 5, .int .i64 p, .slice none 0 0, .slice none 0 0, .slice (some ⟨w.heap.size + 1 + 1, 0, none⟩) 1 1] 45)) (.cells #[.slice A n c, .bool x, .int .i64 m] 26)
    rw [World.size_alloc, World.size_alloc] at this
    exact this
  exact bodyPost_ret (v := .agg #[.int .i64 v, .int .i64 5, .int .i64 p, .slice none 0 0, .slice none 0 0, .slice (some ⟨w.heap.size + 1 + 1, 0, none⟩) 1 1]) (by simp [results, Tryd.results14, go_sem]) rfl ⟨_, rfl, by omega, hg, hb⟩
theorem heap_lt {w : World} {b : Nat} {o : Obj} (h : w.heap[b]? = some o) : b < w.heap.size := (Array.getElem?_eq_some_iff.1 h).1
theorem ints_nil (B : Nat) (w : World) : IntsIn B w none [] := ⟨by simp, .inl rfl⟩
theorem AnfAt.plain {B : Nat} {w : World} {b o i : Nat} {x k n : Int} {ats : List Atm} {rest : Anf} {Aa : Option Addr} {ca : Nat} (hb : b < B)
    (c0 : w.cell? ⟨b, o + i * 6, none⟩ = some (.int .i64 x)) (c1 : w.cell? ⟨b, o + i * 6 + 1, none⟩ = some (.int .i64 k)) (c2 : w.cell? ⟨b, o + i * 6 + 2, none⟩ = some (.int .i64 n))
    (c3 : w.cell? ⟨b, o + i * 6 + 3, none⟩ = some (.slice Aa ats.length ca)) (c4 : w.cell? ⟨b, o + i * 6 + 4, none⟩ = some (.slice none 0 0)) (c5 : w.cell? ⟨b, o + i * 6 + 5, none⟩ = some (.slice none 0 0))
    (ha : AtomsIn B w Aa ats) (hac : ats.length ≤ ca) (hr : AnfAt B w b o (i + 1) rest) : AnfAt B w b o i (.bind x k n ats [] [] rest) :=
  .bind (ks := []) (bl := []) (bb := 0) (oo := 0) (AB := fun _ => none) (CB := fun _ => 0) (BB := fun _ => 0) (OO := fun _ => 0) hb c0 c1 c2 c3 c4 c5 ha hac (ints_nil B w) (Nat.le_refl _) (Nat.le_refl _) (by simp) (by simp)
    (by intro j h; simp at h) (by intro j h; simp at h) (by intro j h; simp at h) (by intro j h; simp at h) (by intro j h; simp at h) hr
theorem atoms1 {w : World} {g : Nat} {v : Bool} {n : Int} {t : TypeId} (h : w.heap[g]? = some (.cells #[.bool v, .int .i64 n] t (0, 0))) : AtomsIn w.heap.size w (some ⟨g, 0, none⟩) [⟨v, n⟩] := by
  refine ⟨by simp, .inr ⟨g, 0, rfl, heap_lt h, fun j hj => ?_⟩⟩
  obtain rfl : j = 0 := by simpa using hj
  exact ⟨by simp [World.cell?, h], by simp [World.cell?, h]⟩
theorem atoms2 {w : World} {g : Nat} {v v' : Bool} {n n' : Int} {t : TypeId} (h : w.heap[g]? = some (.cells #[.bool v, .int .i64 n, .bool v', .int .i64 n'] t (0, 0))) : AtomsIn w.heap.size w (some ⟨g, 0, none⟩) [⟨v, n⟩, ⟨v', n'⟩] := by
  refine ⟨by simp, .inr ⟨g, 0, rfl, heap_lt h, fun j hj => ?_⟩⟩
  have : j = 0 ∨ j = 1 := by simp at hj; omega
  rcases this with rfl | rfl
  · exact ⟨by simp [World.cell?, h], by simp [World.cell?, h]⟩
  · exact ⟨by simp [World.cell?, h], by simp [World.cell?, h]⟩
theorem AnfAt.fn {B : Nat} {w : World} {b o i : Nat} {x n : Int} {c rest : Anf} {bb d0 : Nat} {A0 : Option Addr} (hb : b < B)
    (c0 : w.cell? ⟨b, o + i * 6, none⟩ = some (.int .i64 x)) (c1 : w.cell? ⟨b, o + i * 6 + 1, none⟩ = some (.int .i64 5)) (c2 : w.cell? ⟨b, o + i * 6 + 2, none⟩ = some (.int .i64 n))
    (c3 : w.cell? ⟨b, o + i * 6 + 3, none⟩ = some (.slice none 0 0)) (c4 : w.cell? ⟨b, o + i * 6 + 4, none⟩ = some (.slice none 0 0)) (c5 : w.cell? ⟨b, o + i * 6 + 5, none⟩ = some (.slice (some ⟨bb, 0, none⟩) 1 1))
    (hbb : bb < B) (e0 : w.cell? ⟨bb, 0, none⟩ = some (.slice A0 c.len d0)) (e1 : w.cell? ⟨bb, 1, none⟩ = some (.bool c.last.v)) (e2 : w.cell? ⟨bb, 2, none⟩ = some (.int .i64 c.last.n))
    (hc : BodyIn B w c #[.slice A0 c.len d0, .bool c.last.v, .int .i64 c.last.n]) (hr : AnfAt B w b o (i + 1) rest) : AnfAt B w b o i (.bind x 5 n [] [] [c] rest) := by
  obtain ⟨A, cc, cb, co, h1, h2, h3, h4, h5⟩ := hc
  simp only [Array.mk.injEq, List.cons.injEq, Value.slice.injEq, true_and, and_true] at h1
  obtain ⟨rfl, rfl⟩ := h1
  refine .bind (ats := []) (ks := []) (bl := [c]) (bb := bb) (oo := 0) (AB := fun _ => A0) (CB := fun _ => d0) (BB := fun _ => cb) (OO := fun _ => co) hb c0 c1 c2 c3 c4 c5 ⟨by simp, .inl rfl⟩ (Nat.le_refl _) (ints_nil B w) (Nat.le_refl _) (Nat.le_refl _) (by simp) (fun _ => ⟨rfl, hbb⟩) ?_ ?_ ?_ ?_ ?_ hr
  · intro j h; obtain rfl : j = 0 := by simpa using h
    simpa using e0
  · intro j h; obtain rfl : j = 0 := by simpa using h
    simpa using e1
  · intro j h; obtain rfl : j = 0 := by simpa using h
    simpa using e2
  · intro j h; obtain rfl : j = 0 := by simpa using h
    exact ⟨h2, h3, h4⟩
  · intro j h; obtain rfl : j = 0 := by simpa using h
    exact h5
theorem heap1_ (w : World) (a b : Obj) : ((w.alloc a).alloc b).heap[w.heap.size]? = some a :=
  (((Below.refl _ _).alloc (Nat.le_refl _) _ : Below (w.alloc a).heap.size (w.alloc a) ((w.alloc a).alloc b)).block w.heap.size (by simp)).trans (World.alloc_heap_new w a)
theorem BodyIn.later {w w' : World} {t : Anf} {v : Array Value} (h : BodyIn w.heap.size w t v) (hb : Below w.heap.size w w') : BodyIn w'.heap.size w' t v := (h.kept hb).mono hb.size
theorem ints_one {V : World} {b : Nat} {n : Int} (h : V.cell? ⟨b, 0, none⟩ = some (.int .i64 n)) : IntsIn V.heap.size V (some ⟨b, 0, none⟩) [n] := by
  refine ⟨by simp, .inr ⟨b, 0, rfl, World.block_lt_of_cell? _ _ h, fun j hj => ?_⟩⟩
  obtain rfl : j = 0 := by simpa using hj
  simpa [nth] using h

theorem kbody_in {w : World} {g1 g2 : Nat} (h1 : w.heap[g1]? = some (.cells #[.bool true, .int .i64 1, .bool false, .int .i64 1] 24 (0, 0))) (h2 : w.heap[g2]? = some (.cells #[.int .i64 3, .int .i64 2, .int .i64 1, .slice (some ⟨g1, 0, none⟩) 2 2, .slice none 0 0, .slice none 0 0] 45 (0, 0))) :
    BodyIn w.heap.size w kbody #[.slice (some ⟨g2, 0, none⟩) 1 1, .bool true, .int .i64 3] := by
  refine ⟨some ⟨g2, 0, none⟩, 1, g2, 0, rfl, Nat.le_refl _, by decide, fun _ => rfl, ?_⟩
  refine .plain (heap_lt h2) (Aa := some ⟨g1, 0, none⟩) (ca := 2) ?_ ?_ ?_ ?_ ?_ ?_ (atoms2 h1) (Nat.le_refl _) (.ret _ _ _ _)
  iterate 6 simp [World.cell?, h2]
theorem kterm_in {w : World} {g2 gf ga gs gb : Nat} (hf : w.heap[gf]? = some (.cells #[.slice (some ⟨g2, 0, none⟩) 1 1, .bool true, .int .i64 3] 26 (0, 0))) (hk : BodyIn w.heap.size w kbody #[.slice (some ⟨g2, 0, none⟩) 1 1, .bool true, .int .i64 3])
    (ha : w.heap[ga]? = some (.cells #[.bool true, .int .i64 0, .bool false, .int .i64 4] 24 (0, 0))) (hs : w.heap[gs]? = some (.cells #[.bool true, .int .i64 2] 24 (0, 0)))
    (hb : w.heap[gb]? = some (.cells #[.int .i64 0, .int .i64 5, .int .i64 1, .slice none 0 0, .slice none 0 0, .slice (some ⟨gf, 0, none⟩) 1 1, .int .i64 2, .int .i64 6, .int .i64 0, .slice (some ⟨ga, 0, none⟩) 2 2, .slice none 0 0, .slice none 0 0, .int .i64 4, .int .i64 2, .int .i64 13, .slice (some ⟨gs, 0, none⟩) 1 1, .slice none 0 0, .slice none 0 0] 45 (0, 0))) :
    BodyIn w.heap.size w kterm #[.slice (some ⟨gb, 0, none⟩) 3 3, .bool false, .int .i64 0] := by
  refine ⟨some ⟨gb, 0, none⟩, 3, gb, 0, rfl, Nat.le_refl _, by decide, fun _ => rfl, ?_⟩
  refine .fn (heap_lt hb) (bb := gf) (A0 := some ⟨g2, 0, none⟩) (d0 := 1) ?_ ?_ ?_ ?_ ?_ ?_ (heap_lt hf) ?_ ?_ ?_ hk ?_
  iterate 6 simp [World.cell?, hb]
  · simp [World.cell?, hf]; rfl
  · simp [World.cell?, hf]; rfl
  · simp [World.cell?, hf]; rfl
  refine .plain (heap_lt hb) (Aa := some ⟨ga, 0, none⟩) (ca := 2) ?_ ?_ ?_ ?_ ?_ ?_ (atoms2 ha) (Nat.le_refl _) ?_
  iterate 6 simp [World.cell?, hb]
  refine .plain (heap_lt hb) (Aa := some ⟨gs, 0, none⟩) (ca := 1) ?_ ?_ ?_ ?_ ?_ ?_ (atoms1 hs) (Nat.le_refl _) (.ret _ _ _ _)
  iterate 6 simp [World.cell?, hb]

theorem behind_new {w w' : World} {o : Obj} (hb : Below (w.alloc o).heap.size (w.alloc o) w') : Below w.heap.size w w' ∧ w'.heap[w.heap.size]? = some o :=
  ⟨((Below.refl _ _).alloc (Nat.le_refl _) o).trans (hb.mono (by simp)), (hb.block _ (by simp)).trans (World.alloc_heap_new w o)⟩
theorem block_later {w w' : World} {b : Nat} {o : Obj} (h : w.heap[b]? = some o) (hb : Below w.heap.size w w') : w'.heap[b]? = some o := (hb.block _ (heap_lt h)).trans h
set_option maxRecDepth 100000 in
set_option maxHeartbeats 4000000 in
theorem knows_any (w : World) (hr : Ready w) : Calls Tryd.prog 5 #[] w (BoolBelow true w) := by
  have HR := Lib.hid hr
  clear hr
  go_enter Tryd.func5, Tryd.ntmps5
  obtain ⟨Q, hQ⟩ : ∃ Q, (bodyPost Tryd.prog Tryd.f5 (BoolBelow true w)) = Q := ⟨_, rfl⟩
  have HQ := Lib.hid hQ
  rw [hQ]
  clear hQ
  go_wp2_with fail
  refine (mkvar_any 1 _).mono ?_
  rintro e w1 ⟨rfl, hb1⟩
  go_wp2_with fail
  refine (mkint_any 1 _).mono ?_
  rintro e w2 ⟨rfl, hb2⟩
  have H2 := Lib.hid (hb1.trans (hb2.mono hb1.size))
  clear hb1 hb2
  go_wp2_with fail
  refine (mkbind_any 3 1 _ 2 2 _).mono ?_
  rintro e w3 ⟨rfl, hb⟩
  obtain ⟨hb3, hg1⟩ := behind_new hb
  have H3 := Lib.hid (H2.out.trans (hb3.mono H2.out.size))
  have G1 := Lib.hid hg1
  obtain ⟨g1, hg1n⟩ : ∃ g, w2.heap.size = g := ⟨_, rfl⟩
  rw [hg1n] at G1 ⊢
  clear hb hb3 hg1 hg1n H2
  go_wp2_with fail
  refine (mkvar_any 3 _).mono ?_
  rintro e w4 ⟨rfl, hb⟩
  obtain ⟨hb4, hg2⟩ := behind_new hb
  have H4 := Lib.hid (H3.out.trans (hb4.mono H3.out.size))
  have K4 := Lib.hid (kbody_in (block_later G1.out hb4) hg2)
  obtain ⟨g2, hg2n⟩ : ∃ g, w3.heap.size = g := ⟨_, rfl⟩
  rw [hg2n] at K4 ⊢
  clear hb hb4 hg2 hg2n H3 G1
  go_wp2_with fail
  refine (mkfn_any 0 1 _ 1 1 true 3 _).mono ?_
  rintro e w5 ⟨gf, rfl, -, hgf, hb⟩
  obtain ⟨hb5, -⟩ := behind_new hb
  have H5 := Lib.hid (H4.out.trans (hb5.mono H4.out.size))
  have K5 := Lib.hid (K4.out.later hb5)
  have G5 := Lib.hid hgf
  clear hb hb5 hgf H4 K4
  go_wp2_with fail
  refine (mkvar_any 0 _).mono ?_
  rintro e w6 ⟨rfl, hb6⟩
  go_wp2_with fail
  refine (mkint_any 4 _).mono ?_
  rintro e w7 ⟨rfl, hb7⟩
  go_wp2_with fail
  refine (mkapp_any 2 true false 0 4 _).mono ?_
  rintro e w8 ⟨ga, rfl, -, hga, hb8⟩
  go_wp2_with fail
  refine (mkvar_any 2 _).mono ?_
  rintro e w9 ⟨rfl, hb9⟩
  have hb59 : Below w5.heap.size w5 w9 := hb6.trans ((hb7.trans ((hb8.trans (hb9.mono hb8.size)).mono hb7.size)).mono hb6.size)
  have H9 := Lib.hid (H5.out.trans (hb59.mono H5.out.size))
  have K9 := Lib.hid (K5.out.later hb59)
  have G9 := Lib.hid (block_later G5.out hb59)
  have A9 := Lib.hid (block_later hga hb9)
  clear hb6 hb7 hb8 hb9 hb59 hga H5 K5 G5
  go_wp2_with fail
  refine (mkbind_any 4 13 _ 1 1 _).mono ?_
  rintro e w10 ⟨rfl, hb⟩
  obtain ⟨hb10, hgs⟩ := behind_new hb
  have H10 := Lib.hid (H9.out.trans (hb10.mono H9.out.size))
  have K10 := Lib.hid (K9.out.later hb10)
  have G10 := Lib.hid (block_later G9.out hb10)
  have A10 := Lib.hid (block_later A9.out hb10)
  have S10 := Lib.hid hgs
  obtain ⟨gs, hgsn⟩ : ∃ g, w9.heap.size = g := ⟨_, rfl⟩
  rw [hgsn] at S10 ⊢
  clear hb hb10 hgs hgsn H9 K9 G9 A9
  go_wp2_with fail
  obtain ⟨W, hW⟩ : ∃ W, (w10.alloc (.cells #[.int .i64 0, .int .i64 5, .int .i64 1, .slice none 0 0, .slice none 0 0, .slice (some ⟨gf, 0, none⟩) 1 1, .int .i64 2, .int .i64 6, .int .i64 0, .slice (some ⟨ga, 0, none⟩) 2 2, .slice none 0 0, .slice none 0 0, .int .i64 4, .int .i64 2, .int .i64 13, .slice (some ⟨gs, 0, none⟩) 1 1, .slice none 0 0, .slice none 0 0] 45)).alloc (.cells #[.slice (some ⟨w10.heap.size, 0, none⟩) 3 3, .bool false, .int .i64 0] 26) = W := ⟨_, rfl⟩
  have hbW : Below w10.heap.size w10 W := by rw [← hW]; exact ((Below.refl _ _).alloc (Nat.le_refl _) _).alloc (by simp) _
  have hgb : W.heap[w10.heap.size]? = some (.cells #[.int .i64 0, .int .i64 5, .int .i64 1, .slice none 0 0, .slice none 0 0, .slice (some ⟨gf, 0, none⟩) 1 1, .int .i64 2, .int .i64 6, .int .i64 0, .slice (some ⟨ga, 0, none⟩) 2 2, .slice none 0 0, .slice none 0 0, .int .i64 4, .int .i64 2, .int .i64 13, .slice (some ⟨gs, 0, none⟩) 1 1, .slice none 0 0, .slice none 0 0] 45) := by rw [← hW]; exact heap1_ w10 _ _
  have HW := Lib.hid (H10.out.trans (hbW.mono H10.out.size))
  have hR := run_ready (HR.out.below HW.out) (kterm_in (block_later G10.out hbW) (K10.out.later hbW) (block_later A10.out hbW) (block_later S10.out hbW) hgb) (by decide) (inp := []) (Ai := none) (ci := 0) (ints_nil _ _) (Nat.le_refl _) 99
  rw [know1] at hR
  have HRUN := Lib.hid hR
  rw [hW]
  clear hR hbW hgb hW K10 G10 A10 S10
  refine HRUN.out.mono ?_
  rintro e w11 ⟨v, A, c, rfl, rfl, hE, hb11, _⟩
  obtain ⟨A', c', heq, hi⟩ := hE
  simp only [Value.agg.injEq, Array.mk.injEq, List.cons.injEq, Value.slice.injEq, true_and, and_true] at heq
  obtain ⟨rfl, rfl⟩ := heq
  have H11 := Lib.hid (HW.out.trans (hb11.mono HW.out.size))
  have HI := Lib.hid hi
  clear hi hb11 HW H10 HRUN HR
  go_wp2_with fail
  have hb14 : Below w11.heap.size w11 ((w11.alloc (.cells #[.int .i64 1, .int .i64 0, .slice A 1 c, .int .i64 5] 32)).alloc (.cells #[.int .i64 5] 3)) := ((Below.refl _ _).alloc (Nat.le_refl _) _).alloc (by simp) _
  have h14 : ((w11.alloc (.cells #[.int .i64 1, .int .i64 0, .slice A 1 c, .int .i64 5] 32)).alloc (.cells #[.int .i64 5] 3)).cell? ⟨w11.heap.size + 1, 0, none⟩ = some (.int .i64 5) := by
    rw [World.cell?_alloc_at _ _ _ _ (by simp)]; rfl
  have h140 : ((w11.alloc (.cells #[.int .i64 1, .int .i64 0, .slice A 1 c, .int .i64 5] 32)).alloc (.cells #[.int .i64 5] 3)).heap[w11.heap.size]? = some (.cells #[.int .i64 1, .int .i64 0, .slice A 1 c, .int .i64 5] 32) := heap1_ w11 _ _
  have S1 := Lib.hid (sameInts_any (c := c) (c' := 1) _ ((HI.out.below hb14).mono hb14.size) (ints_one h14))
  have HB14 := Lib.hid (H11.out.trans (hb14.mono H11.out.size))
  generalize (w11.alloc (.cells #[.int .i64 1, .int .i64 0, .slice A 1 c, .int .i64 5] 32)).alloc (.cells #[.int .i64 5] 3) = w14 at *
  refine S1.out.mono ?_
  rintro e w15 ⟨rfl, n1, rfl⟩
  have r0 : w14.cell? ⟨w11.heap.size, 3, none⟩ = some (.int .i64 5) := by simp [World.cell?, h140]
  have r1 : (w14.drewN n1).cell? ⟨w11.heap.size, 3, none⟩ = some (.int .i64 5) := r0
  clear hb14 h14
  go_wp2_with fail
  rw [← HQ.out]
  go_ret
  exact ⟨rfl, below_drewN HB14.out _⟩
end Go.Proofs.YtllakbiipdcboaaDoor

/-
  AevalMore: what stands behind its two runs.
-/
set_option linter.unusedVariables false
set_option linter.unusedSimpArgs false
namespace Go.Proofs.YtllakbiipdcboaaDoor
open Go.RowKit

/-- the code behind the second run; behind the first -/
noncomputable def moreTail : Code := match Tryd.f3.body with
  | some (.seq _ (.seq _ (.seq _ (.seq _ c)))) => c
  | _ => .skip
noncomputable def moreTail4 : Code := match Tryd.f3.body with
  | some (.seq _ (.seq _ (.seq _ c))) => c
  | _ => .skip
/-- an end that lies in a variable -/
def EndAt (V : World) (X : Nat) (pe : PEnd) : Prop := ∃ A c, V.heap[X]? = some (.cells #[.int .i64 pe.kind, .int .i64 pe.n, .slice A pe.out.length c, .int .i64 pe.steps] 32 (0, 0)) ∧ IntsIn V.heap.size V A pe.out

set_option maxRecDepth 100000 in
set_option maxHeartbeats 8000000 in
theorem more_tail {W V : World} (hb : Below W.heap.size W V) (hr : Ready V) {X9 X10 : Nat} {pa pb : PEnd} (ha : EndAt V X9 pa) (hb2 : EndAt V X10 pb) (f sf : Int) (hsf : min f 1500 = sf)
    (hlaw : (pa.kind ≠ 3 → sameE pa pb = true ∧ pa.steps = pb.steps) ∧ (pa.kind = 3 → beginsB pb.out pa.out = true ∧ pa.steps ≤ pb.steps ∧ (pa.steps : Int) = max sf 0)) (u0 u1 u3 u4 u5 u6 u7 u8 u11 u12 u13 u14 u15 u16 u17 u18 u19 u20 u21 u22 u23 u24 u25 u26 u27 u28 u29 u30 u31 u32 u33 u34 u35 u36 u37 u38 u39 u40 u41 u42 u43 u44 u45 u46 u47 u48 u49 u50 u51 u52 u53 u54 u55 u56 u57 u58 u59 u60 u61 u62 u63 u64 u65 u66 u67 u68 u69 u70 u71 u72 : Value) :
    moreTail.wp Tryd.prog (bodyPost Tryd.prog Tryd.f3 (BoolBelow true W)) { tmps := #[u0, u1, .int .i64 f, u3, u4, u5, u6, u7, u8, .pointer (some ⟨X9, 0, none⟩), .pointer (some ⟨X10, 0, none⟩), u11, u12, u13, u14, u15, u16, u17, u18, u19, u20, u21, u22, u23, u24, u25, u26, u27, u28, u29, u30, u31, u32, u33, u34, u35, u36, u37, u38, u39, u40, u41, u42, u43, u44, u45, u46, u47, u48, u49, u50, u51, u52, u53, u54, u55, u56, u57, u58, u59, u60, u61, u62, u63, u64, u65, u66, u67, u68, u69, u70, u71, u72], defers := [] } V := by
  obtain ⟨A, c, h9, hi9⟩ := ha
  obtain ⟨B, d, h10, hi10⟩ := hb2
  have a0 : V.cell? ⟨X9, 0, none⟩ = some (.int .i64 pa.kind) := by simp [World.cell?, h9]
  have a1 : V.cell? ⟨X9, 1, none⟩ = some (.int .i64 pa.n) := by simp [World.cell?, h9]
  have a2 : V.cell? ⟨X9, 2, none⟩ = some (.slice A pa.out.length c) := by simp [World.cell?, h9]
  have a3 : V.cell? ⟨X9, 3, none⟩ = some (.int .i64 pa.steps) := by simp [World.cell?, h9]
  have b0 : V.cell? ⟨X10, 0, none⟩ = some (.int .i64 pb.kind) := by simp [World.cell?, h10]
  have b1 : V.cell? ⟨X10, 1, none⟩ = some (.int .i64 pb.n) := by simp [World.cell?, h10]
  have b2 : V.cell? ⟨X10, 2, none⟩ = some (.slice B pb.out.length d) := by simp [World.cell?, h10]
  have b3 : V.cell? ⟨X10, 3, none⟩ = some (.int .i64 pb.steps) := by simp [World.cell?, h10]
  by_cases hk : pa.kind = 3
  · obtain ⟨l1, l2, l3⟩ := hlaw.2 hk
    have hk' : (pa.kind == 3) = true := by simpa using hk
    have hk2 : (pa.kind != 3) = false := by simpa using hk
    obtain ⟨mx, hmx⟩ : ∃ mx : Int, (if sf < 0 then (0 : Int) else sf) = mx := ⟨_, rfl⟩
    have hmx1 : max sf 0 = mx := by rw [← hmx]; split <;> omega
    rw [hmx1] at l3
    have hst : ((pa.steps : Int) == mx) = true := by simpa using l3
    have hge : (pa.steps : Int) ≤ (pb.steps : Int) := by omega
    have hd : Below V.heap.size V V.drew := (Below.refl _ _).drew
    have HBG := Lib.hid (begins_any (c := d) (c' := c) V.drew hi10 hi9)
    rw [l1] at HBG
    have HSH := Lib.hid (fun (V2 : World) => (show Calls Tryd.prog 7 #[.int .i64 f] V2 fun e w' => e = .returned (.int .i64 sf) ∧ V2 = w' from hsf ▸ short_any f V2))
    have HK := Lib.hid (fun (V2 : World) (h : Below V.heap.size V V2) => knows_any V2 (hr.below h))
    have HB := Lib.hid hb
    have HC := Lib.hid (fun (V2 : World) (h : Below V.heap.size V V2) => (show V2.cell? ⟨X9, 2, none⟩ = some (.slice A pa.out.length c) ∧ V2.cell? ⟨X9, 3, none⟩ = some (.int .i64 pa.steps) ∧ V2.cell? ⟨X10, 2, none⟩ = some (.slice B pb.out.length d) ∧ V2.cell? ⟨X10, 3, none⟩ = some (.int .i64 pb.steps) from ⟨cell_behind h a2, cell_behind h a3, cell_behind h b2, cell_behind h b3⟩))
    clear hlaw l1 l2 l3 hi9 hi10 hb hr h9 h10 hd
    obtain ⟨Q, hQ⟩ : ∃ Q, bodyPost Tryd.prog Tryd.f3 (BoolBelow true W) = Q := ⟨_, rfl⟩
    have HQ := Lib.hid hQ
    have hQp : ∀ ch a b V, Q (.panic ch) a V → Q (.panic ch) b V → True := fun _ _ _ _ _ _ => trivial
    clear hQp
    rw [hQ]
    clear hQ
    unfold moreTail Tryd.f3
    dsimp only
    go_wp2_with fail
    rw [← HQ.out]
    go_region_held2 (fun V2 => V2.cell? ⟨X9, 2, none⟩ = some (.slice A pa.out.length c) ∧ V2.cell? ⟨X9, 3, none⟩ = some (.int .i64 pa.steps) ∧ V2.cell? ⟨X10, 2, none⟩ = some (.slice B pb.out.length d) ∧ V2.cell? ⟨X10, 3, none⟩ = some (.int .i64 pb.steps))
      (first | exact HC.out _ (Below.refl _ _).drew | exact HC.out _ (below_drewN (Below.refl _ _) _) | exact HC.out _ ((below_drewN (Below.refl _ _) _).trans (hv4.mono (Nat.le_refl _))))
      ((first
        | (go_at_call 9; refine HBG.out.mono ?_; rintro e V2 ⟨rfl, n1, rfl⟩)
        | (go_at_call 7; refine (HSH.out _).mono ?_; rintro en w' ⟨rfl, rfl⟩)
        | (go_at_call 5; refine Calls.mono (HK.out _ (by first | exact below_drewN (Below.refl _ _) _ | exact (Below.refl _ _).drew)) ?_; rintro e V4 ⟨rfl, hv4⟩)))
    all_goals
      go_wp2_with fail
      (try rw [← HQ.out])
      go_ret
      refine ⟨rfl, (HB.out.trans ((below_drewN (Below.refl _ V) _).mono HB.out.size)).trans (hv4.mono ?_)⟩
      exact HB.out.size
  · obtain ⟨l1, l2⟩ := hlaw.1 hk
    have hk' : (pa.kind == 3) = false := by simpa using hk
    have hk2 : (pa.kind != 3) = true := by simpa using hk
    have HS := Lib.hid (same_any (v := .agg #[.int .i64 pa.kind, .int .i64 pa.n, .slice A pa.out.length c, .int .i64 pa.steps]) (u := .agg #[.int .i64 pb.kind, .int .i64 pb.n, .slice B pb.out.length d, .int .i64 pb.steps]) V ⟨A, c, rfl, hi9⟩ ⟨B, d, rfl, hi10⟩)
    rw [l1] at HS
    have hst : ((pa.steps : Int) == (pb.steps : Int)) = true := by simp [l2]
    have HK := Lib.hid (fun (V2 : World) (h : Below V.heap.size V V2) => knows_any V2 (hr.below h))
    have HB := Lib.hid hb
    clear hlaw l1 l2 hi9 hi10 hb hr h9 h10
    have HC := Lib.hid (fun (V2 : World) (h : Below V.heap.size V V2) => (show V2.cell? ⟨X9, 3, none⟩ = some (.int .i64 pa.steps) ∧ V2.cell? ⟨X10, 3, none⟩ = some (.int .i64 pb.steps) from ⟨cell_behind h a3, cell_behind h b3⟩))
    obtain ⟨Q, hQ⟩ : ∃ Q, bodyPost Tryd.prog Tryd.f3 (BoolBelow true W) = Q := ⟨_, rfl⟩
    have HQ := Lib.hid hQ
    rw [hQ]
    clear hQ
    unfold moreTail Tryd.f3
    dsimp only
    go_wp2_with (first
      | (go_at_call 8; refine HS.out.mono ?_; rintro e V2 ⟨rfl, hv2⟩; obtain ⟨c3, d3⟩ := HC.out _ hv2)
      | (go_at_call 5; refine (HK.out _ hv2).mono ?_; rintro e V4 ⟨rfl, hv4⟩))
    rw [← HQ.out]
    go_ret
    have h1 := HB.out.trans (hv2.mono HB.out.size)
    exact ⟨rfl, h1.trans (hv4.mono h1.size)⟩
end Go.Proofs.YtllakbiipdcboaaDoor

/-
  AevalMore: what stands behind its first run.
-/
set_option linter.unusedVariables false
set_option linter.unusedSimpArgs false
namespace Go.Proofs.YtllakbiipdcboaaDoor
open Go.RowKit

theorem EndAt.below {V V2 : World} {X : Nat} {pe : PEnd} (h : EndAt V X pe) (hb : Below V.heap.size V V2) : EndAt V2 X pe := by
  obtain ⟨A, c, h1, hi⟩ := h
  have hX : X < V.heap.size := by
    rcases Nat.lt_or_ge X V.heap.size with h | h
    · exact h
    · rw [Array.getElem?_eq_none (by omega)] at h1; cases h1
  exact ⟨A, c, (hb.block X hX).trans h1, (hi.below hb).mono hb.size⟩
theorem end_zero (V V2 : World) (hb : Below (V.alloc (.cells #[.int .i64 0, .int .i64 0, .slice none 0 0, .int .i64 0] 32)).drew.heap.size (V.alloc (.cells #[.int .i64 0, .int .i64 0, .slice none 0 0, .int .i64 0] 32)).drew V2) : V2.heap[V.heap.size]? = some (.cells #[.int .i64 0, .int .i64 0, .slice none 0 0, .int .i64 0] 32 (0, 0)) :=
  (hb.block V.heap.size (show V.heap.size < (V.alloc (.cells #[.int .i64 0, .int .i64 0, .slice none 0 0, .int .i64 0] 32)).heap.size from by rw [World.size_alloc]; exact Nat.lt_succ_self _)).trans (World.alloc_heap_new V _)
/-- the run first, its end then laid -/
theorem end_new {V2 : World} {B : Option Addr} {d : Nat} {pb : PEnd} (hE : EndV V2 pb (.agg #[.int .i64 pb.kind, .int .i64 pb.n, .slice B pb.out.length d, .int .i64 pb.steps])) :
    EndAt (V2.alloc (.cells #[.int .i64 pb.kind, .int .i64 pb.n, .slice B pb.out.length d, .int .i64 pb.steps] 32)) V2.heap.size pb := by
  have FE := hE.below (w' := V2.alloc (.cells #[.int .i64 pb.kind, .int .i64 pb.n, .slice B pb.out.length d, .int .i64 pb.steps] 32)) ((Below.refl _ _).alloc (Nat.le_refl _) _)
  obtain ⟨A', c', heq, hi⟩ := FE
  simp only [Value.agg.injEq, Array.mk.injEq, List.cons.injEq, Value.slice.injEq, true_and, and_true] at heq
  obtain ⟨rfl, rfl⟩ := heq
  exact ⟨_, _, World.alloc_heap_new V2 _, hi⟩
/-- the end's place first, filled behind the run -/
theorem end_set {V V2 : World} {B : Option Addr} {d : Nat} {pb : PEnd} (hb : Below (V.alloc (.cells #[.int .i64 0, .int .i64 0, .slice none 0 0, .int .i64 0] 32)).drew.heap.size (V.alloc (.cells #[.int .i64 0, .int .i64 0, .slice none 0 0, .int .i64 0] 32)).drew V2) (hlo : ∀ a, B = some a → (V.alloc (.cells #[.int .i64 0, .int .i64 0, .slice none 0 0, .int .i64 0] 32)).drew.heap.size ≤ a.block) (hE : EndV V2 pb (.agg #[.int .i64 pb.kind, .int .i64 pb.n, .slice B pb.out.length d, .int .i64 pb.steps])) :
    EndAt ((((V2.setCell ⟨V.heap.size, 0, none⟩ (.int .i64 pb.kind)).setCell ⟨V.heap.size, 1, none⟩ (.int .i64 pb.n)).setCell ⟨V.heap.size, 2, none⟩ (.slice B pb.out.length d)).setCell ⟨V.heap.size, 3, none⟩ (.int .i64 pb.steps)) V.heap.size pb := by
  have hz := end_zero V V2 hb
  obtain ⟨A', c', heq, hi1, hi2⟩ := hE
  simp only [Value.agg.injEq, Array.mk.injEq, List.cons.injEq, Value.slice.injEq, true_and, and_true] at heq
  obtain ⟨rfl, rfl⟩ := heq
  refine ⟨B, d, ?_, hi1, ?_⟩
  · rw [heap_set_self (heap_set_self (heap_set_self (heap_set_self hz 0 _) 1 _) 2 _) 3 _]; rfl
  · rcases hi2 with h0 | ⟨b, o, rfl, hlt, hc⟩
    · exact .inl h0
    · have hb := hlo _ rfl
      have hs : (V.alloc (.cells #[.int .i64 0, .int .i64 0, .slice none 0 0, .int .i64 0] 32)).drew.heap.size = V.heap.size + 1 := by show (V.alloc _).heap.size = _; rw [World.size_alloc]
      have hne : b ≠ V.heap.size := by
        have : V.heap.size + 1 ≤ b := hs ▸ hb
        omega
      refine .inr ⟨b, o, rfl, by simpa [World.setCell] using hlt, fun j hj => ?_⟩
      refine (cell_of_heap ?_ _).trans (hc j hj)
      rw [heap_set_ne hne, heap_set_ne hne, heap_set_ne hne, heap_set_ne hne]

set_option maxRecDepth 100000 in
set_option maxHeartbeats 16000000 in
theorem more_tail4 {W V : World} (hb : Below W.heap.size W V) (hr : Ready V) {X4 X9 L ci : Nat} {Ai A2 : Option Addr} {k0 : Bool} {n0 : Int} {n2 d2 : Nat} {pa pb : PEnd} (ha : EndAt V X9 pa) (f more sf mx mn : Int)
    (hsf : min f 1500 = sf)
    (hlaw : (pa.kind ≠ 3 → sameE pa pb = true ∧ pa.steps = pb.steps) ∧ (pa.kind = 3 → beginsB pb.out pa.out = true ∧ pa.steps ≤ pb.steps ∧ (pa.steps : Int) = max sf 0))
    (hS : ∀ V2, Below V.heap.size V V2 → V2.cell? ⟨X4, 0, none⟩ = some (.slice A2 n2 d2) ∧ V2.cell? ⟨X4, 1, none⟩ = some (.bool k0) ∧ V2.cell? ⟨X4, 2, none⟩ = some (.int .i64 n0))
    (hrun : ∀ V2, Below V.heap.size V V2 → Calls Tryd.prog 6 #[.agg #[.slice A2 n2 d2, .bool k0, .int .i64 n0], .slice Ai L ci, .int .i64 (mx + mn)] V2 (RunPost pb V2))
    (hmx : (if sf < 0 then (0 : Int) else sf) = mx) (hmn : (if 1500 < more then (1500 : Int) else more) = mn) (hwr : IntKind.i64.wrap (mx + mn) = mx + mn) (u0 u5 u6 u7 u8 u10 u11 u12 u13 u14 u15 u16 u17 u18 u19 u20 u21 u22 u23 u24 u25 u26 u27 u28 u29 u30 u31 u32 u33 u34 u35 u36 u37 u38 u39 u40 u41 u42 u43 u44 u45 u46 u47 u48 u49 u50 u51 u52 u53 u54 u55 u56 u57 u58 u59 u60 u61 u62 u63 u64 u65 u66 u67 u68 u69 u70 u71 u72 : Value) :
    moreTail4.wp Tryd.prog (bodyPost Tryd.prog Tryd.f3 (BoolBelow true W)) { tmps := #[u0, .slice Ai L ci, .int .i64 f, .int .i64 more, .pointer (some ⟨X4, 0, none⟩), u5, u6, u7, u8, .pointer (some ⟨X9, 0, none⟩), u10, u11, u12, u13, u14, u15, u16, u17, u18, u19, u20, u21, u22, u23, u24, u25, u26, u27, u28, u29, u30, u31, u32, u33, u34, u35, u36, u37, u38, u39, u40, u41, u42, u43, u44, u45, u46, u47, u48, u49, u50, u51, u52, u53, u54, u55, u56, u57, u58, u59, u60, u61, u62, u63, u64, u65, u66, u67, u68, u69, u70, u71, u72], defers := [] } V := by
  have hmx1 : max sf 0 = mx := by rw [← hmx]; split <;> omega
  have hmn1 : min more 1500 = mn := by rw [← hmn]; split <;> omega
  have hend : ∀ (V2 : World) (X10 : Nat), Below V.heap.size V V2 → EndAt V2 X10 pb → ∀ (y0 y1 y3 y4 y5 y6 y7 y8 y11 y12 y13 y14 y15 y16 y17 y18 y19 y20 y21 y22 y23 y24 y25 y26 y27 y28 y29 y30 y31 y32 y33 y34 y35 y36 y37 y38 y39 y40 y41 y42 y43 y44 y45 y46 y47 y48 y49 y50 y51 y52 y53 y54 y55 y56 y57 y58 y59 y60 y61 y62 y63 y64 y65 y66 y67 y68 y69 y70 y71 y72 : Value), moreTail.wp Tryd.prog (bodyPost Tryd.prog Tryd.f3 (BoolBelow true W)) { tmps := #[y0, y1, .int .i64 f, y3, y4, y5, y6, y7, y8, .pointer (some ⟨X9, 0, none⟩), .pointer (some ⟨X10, 0, none⟩), y11, y12, y13, y14, y15, y16, y17, y18, y19, y20, y21, y22, y23, y24, y25, y26, y27, y28, y29, y30, y31, y32, y33, y34, y35, y36, y37, y38, y39, y40, y41, y42, y43, y44, y45, y46, y47, y48, y49, y50, y51, y52, y53, y54, y55, y56, y57, y58, y59, y60, y61, y62, y63, y64, y65, y66, y67, y68, y69, y70, y71, y72], defers := [] } V2 := by
    intro V2 X10 hv he y0 y1 y3 y4 y5 y6 y7 y8 y11 y12 y13 y14 y15 y16 y17 y18 y19 y20 y21 y22 y23 y24 y25 y26 y27 y28 y29 y30 y31 y32 y33 y34 y35 y36 y37 y38 y39 y40 y41 y42 y43 y44 y45 y46 y47 y48 y49 y50 y51 y52 y53 y54 y55 y56 y57 y58 y59 y60 y61 y62 y63 y64 y65 y66 y67 y68 y69 y70 y71 y72
    exact more_tail (hb.trans (hv.mono hb.size)) (hr.below hv) (ha.below hv) he f sf hsf hlaw _ _ _ _ _ _ _ _ _ _ _ _ _ _ _ _ _ _ _ _ _ _ _ _ _ _ _ _ _ _ _ _ _ _ _ _ _ _ _ _ _ _ _ _ _ _ _ _ _ _ _ _ _ _ _ _ _ _ _ _ _ _ _ _ _ _ _ _ _ _
  obtain ⟨Q, hQ⟩ : ∃ Q, bodyPost Tryd.prog Tryd.f3 (BoolBelow true W) = Q := ⟨_, rfl⟩
  have HQ := Lib.hid hQ
  rw [hQ] at hend ⊢
  clear hQ
  have HEND := Lib.hid hend
  have HS := Lib.hid hS
  have HSH := Lib.hid (fun (V2 : World) => (show Calls Tryd.prog 7 #[.int .i64 f] V2 fun e w' => e = .returned (.int .i64 sf) ∧ V2 = w' from hsf ▸ short_any f V2))
  have D1 := Lib.hid (show Below V.heap.size V V.drew from (Below.refl _ _).drew)
  have D2 := Lib.hid (show Below V.heap.size V (V.alloc (.cells #[.int .i64 0, .int .i64 0, .slice none 0 0, .int .i64 0] 32)).drew from ((Below.refl _ _).alloc (Nat.le_refl _) _).drew)
  have HE9 := Lib.hid (fun (V2 : World) (hb : Below (V.alloc (.cells #[.int .i64 0, .int .i64 0, .slice none 0 0, .int .i64 0] 32)).drew.heap.size (V.alloc (.cells #[.int .i64 0, .int .i64 0, .slice none 0 0, .int .i64 0] 32)).drew V2) => (show V2.cell? ⟨V.heap.size, 0, none⟩ = some (.int .i64 0) ∧ V2.cell? ⟨V.heap.size, 1, none⟩ = some (.int .i64 0) ∧ V2.cell? ⟨V.heap.size, 2, none⟩ = some (.slice none 0 0) ∧ V2.cell? ⟨V.heap.size, 3, none⟩ = some (.int .i64 0) ∧ ∀ i, V2.frozen? ⟨V.heap.size, i, none⟩ = false from by
    have h := end_zero V V2 hb
    exact ⟨by simp [World.cell?, h], by simp [World.cell?, h], by simp [World.cell?, h], by simp [World.cell?, h], fun i => by simp [World.frozen?, h]⟩))
  have HR1 := Lib.hid (hrun _ D1.out)
  have HR2 := Lib.hid (hrun _ D2.out)
  obtain ⟨z0, z1, z2⟩ := hS V (Below.refl _ _)
  clear hS hrun hend hb hr ha hlaw hsf
  unfold moreTail4 Tryd.f3
  dsimp only
  go_wp2_with fail
  rw [← HQ.out]
  go_region_held2 (fun V2 => V2.cell? ⟨X4, 0, none⟩ = some (.slice A2 n2 d2) ∧ V2.cell? ⟨X4, 1, none⟩ = some (.bool k0) ∧ V2.cell? ⟨X4, 2, none⟩ = some (.int .i64 n0))
    (first | exact HS.out _ D1.out | exact HS.out _ D2.out | exact HS.out _ (D1.out.trans (hb2.mono D1.out.size)) | exact HS.out _ (D2.out.trans (hb2.mono D2.out.size)) | exact HS.out _ ((D1.out.trans (hb2.mono D1.out.size)).alloc (Nat.le_trans D1.out.size hb2.size) _) | exact HS.out _ (((((D2.out.trans (hb2.mono D2.out.size)).setCell (p := ⟨_, _, none⟩) (Nat.le_refl _) _).setCell (p := ⟨_, _, none⟩) (Nat.le_refl _) _).setCell (p := ⟨_, _, none⟩) (Nat.le_refl _) _).setCell (p := ⟨_, _, none⟩) (Nat.le_refl _) _))
    ((first
      | (go_at_call 7; refine (HSH.out _).mono ?_; rintro en w' ⟨rfl, rfl⟩)
      | (go_at_call 6; (with_reducible refine HR2.out.mono ?_); rintro en w2 ⟨v, B, d, rfl, rfl, hE, hb2, hlo⟩; obtain ⟨e90, e91, e92, e93, e9f⟩ := HE9.out _ hb2)
      | (go_at_call 6; (with_reducible refine HR1.out.mono ?_); rintro en w2 ⟨v, B, d, rfl, rfl, hE, hb2, hlo⟩)))
  all_goals
    simp only [Exit.then]
    refine (‹∀ (a : Act) (w : World), Code.wp Tryd.prog _ _ a w → _›) _ _ ?_
    first
      | exact HEND.out _ _ ((D1.out.trans (hb2.mono D1.out.size)).alloc (Nat.le_trans D1.out.size hb2.size) _) (end_new hE) _ _ _ _ _ _ _ _ _ _ _ _ _ _ _ _ _ _ _ _ _ _ _ _ _ _ _ _ _ _ _ _ _ _ _ _ _ _ _ _ _ _ _ _ _ _ _ _ _ _ _ _ _ _ _ _ _ _ _ _ _ _ _ _ _ _ _ _ _ _
      | exact HEND.out _ _ (((((D2.out.trans (hb2.mono D2.out.size)).setCell (p := ⟨V.heap.size, 0, none⟩) (Nat.le_refl _) _).setCell (p := ⟨V.heap.size, 1, none⟩) (Nat.le_refl _) _).setCell (p := ⟨V.heap.size, 2, none⟩) (Nat.le_refl _) _).setCell (p := ⟨V.heap.size, 3, none⟩) (Nat.le_refl _) _) (end_set hb2 hlo hE) _ _ _ _ _ _ _ _ _ _ _ _ _ _ _ _ _ _ _ _ _ _ _ _ _ _ _ _ _ _ _ _ _ _ _ _ _ _ _ _ _ _ _ _ _ _ _ _ _ _ _ _ _ _ _ _ _ _ _ _ _ _ _ _ _ _ _ _ _ _
end Go.Proofs.YtllakbiipdcboaaDoor
