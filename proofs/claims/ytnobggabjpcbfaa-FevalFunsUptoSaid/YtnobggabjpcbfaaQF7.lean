/-
  6 texts of this seat in one: B7 Y2 Y1 Y3 S2 S3.
-/
import Derived.Test.YtnobggabjpcbfaaQF6
import Derived.Test.YtnobggabjpcbfaaQF5
/-
  knows: its walk.
-/
set_option linter.unusedVariables false
set_option linter.unusedSimpArgs false
namespace Go.Proofs.Ytnobggabjpcbfaa
open Go.RowKit Go.Maps

theorem ints_nil (B : Nat) (w : World) : IntsIn B w none [] := ⟨by simp, .inl rfl⟩
theorem AnfAt.plain {B : Nat} {w : World} {b o i : Nat} {x k n : Int} {ats : List Atm} {rest : Anf} {Aa : Option Addr} {ca : Nat} (hb : b < B)
    (c0 : w.cell? ⟨b, o + i * 6, none⟩ = some (.int .i64 x)) (c1 : w.cell? ⟨b, o + i * 6 + 1, none⟩ = some (.int .i64 k)) (c2 : w.cell? ⟨b, o + i * 6 + 2, none⟩ = some (.int .i64 n))
    (c3 : w.cell? ⟨b, o + i * 6 + 3, none⟩ = some (.slice Aa ats.length ca)) (c4 : w.cell? ⟨b, o + i * 6 + 4, none⟩ = some (.slice none 0 0)) (c5 : w.cell? ⟨b, o + i * 6 + 5, none⟩ = some (.slice none 0 0))
    (ha : AtomsIn B w Aa ats) (hac : ats.length ≤ ca) (hr : AnfAt B w b o (i + 1) rest) : AnfAt B w b o i (.bind x k n ats [] [] rest) :=
  .bind (ks := []) (bl := []) (bb := 0) (oo := 0) (AB := fun _ => none) (CB := fun _ => 0) (BB := fun _ => 0) (OO := fun _ => 0) hb c0 c1 c2 c3 c4 c5 ha hac (ints_nil B w) (Nat.le_refl _) (Nat.le_refl _) (by simp) (by simp)
    (by intro j h; simp at h) (by intro j h; simp at h) (by intro j h; simp at h) (by intro j h; simp at h) (by intro j h; simp at h) hr
theorem atoms1 {w : World} {g : Nat} {v : Bool} {n : Int} {t : TypeId} (h : w.heap[g]? = some (.cells #[.bool v, .int .i64 n] t (0, 0))) : AtomsIn w.heap.size w (some ⟨g, 0, none⟩) [⟨v, n⟩] := by
  refine ⟨by simp, .inr ⟨g, 0, rfl, heap_lt h, fun j hj => ?_⟩⟩
  obtain rfl : j = 0 := by simpa using hj
  exact ⟨by simp [World.cell?, h], by simp [World.cell?, h]⟩
theorem atoms2 {w : World} {g : Nat} {v v' : Bool} {n n' : Int} {t : TypeId} (h : w.heap[g]? = some (.cells #[.bool v, .int .i64 n, .bool v', .int .i64 n'] t (0, 0))) : AtomsIn w.heap.size w (some ⟨g, 0, none⟩) [⟨v, n⟩, ⟨v', n'⟩] := by
  refine ⟨by simp, .inr ⟨g, 0, rfl, heap_lt h, fun j hj => ?_⟩⟩
  have : j = 0 ∨ j = 1 := by simp at hj; omega
  rcases this with rfl | rfl
  · exact ⟨by simp [World.cell?, h], by simp [World.cell?, h]⟩
  · exact ⟨by simp [World.cell?, h], by simp [World.cell?, h]⟩
theorem kbody_in {w : World} {bf g3 g5 : Nat} (hf : w.heap[bf]? = some (.cells #[.bool true, .int .i64 0] 25 (0, 0))) (h3 : w.heap[g3]? = some (.cells #[.bool true, .int .i64 1, .bool true, .int .i64 2] 25 (0, 0))) (h5 : w.heap[g5]? = some (.cells #[.int .i64 2, .int .i64 4, .int .i64 1, .slice (some ⟨bf, 0, none⟩) 1 1, .slice none 0 0, .slice none 0 0, .int .i64 3, .int .i64 2, .int .i64 1, .slice (some ⟨g3, 0, none⟩) 2 2, .slice none 0 0, .slice none 0 0] 54 (0, 0))) :
    BodyIn w.heap.size w kbody #[.slice (some ⟨g5, 0, none⟩) 2 2, .bool true, .int .i64 3] := by
  refine ⟨some ⟨g5, 0, none⟩, 2, g5, 0, rfl, Nat.le_refl _, by decide, fun _ => rfl, ?_⟩
  refine .plain (heap_lt h5) (Aa := some ⟨bf, 0, none⟩) (ca := 1) ?_ ?_ ?_ ?_ ?_ ?_ (atoms1 hf) (Nat.le_refl _) ?_
  iterate 6 simp [World.cell?, h5]
  refine .plain (heap_lt h5) (Aa := some ⟨g3, 0, none⟩) (ca := 2) ?_ ?_ ?_ ?_ ?_ ?_ (atoms2 h3) (Nat.le_refl _) (.ret _ _ _ _)
  iterate 6 simp [World.cell?, h5]
theorem kmain_in {w : World} {bc ga gs gb : Nat} (hc : w.heap[bc]? = some (.cells #[.bool false, .int .i64 7] 25 (0, 0))) (ha : w.heap[ga]? = some (.cells #[.bool true, .int .i64 0, .bool false, .int .i64 5] 25 (0, 0))) (hs : w.heap[gs]? = some (.cells #[.bool true, .int .i64 1] 25 (0, 0))) (hb : w.heap[gb]? = some (.cells #[.int .i64 0, .int .i64 9, .int .i64 0, .slice (some ⟨bc, 0, none⟩) 1 1, .slice none 0 0, .slice none 0 0, .int .i64 1, .int .i64 6, .int .i64 0, .slice (some ⟨ga, 0, none⟩) 2 2, .slice none 0 0, .slice none 0 0, .int .i64 2, .int .i64 2, .int .i64 13, .slice (some ⟨gs, 0, none⟩) 1 1, .slice none 0 0, .slice none 0 0] 54 (0, 0))) :
    BodyIn w.heap.size w kmain #[.slice (some ⟨gb, 0, none⟩) 3 3, .bool false, .int .i64 0] := by
  refine ⟨some ⟨gb, 0, none⟩, 3, gb, 0, rfl, Nat.le_refl _, by decide, fun _ => rfl, ?_⟩
  refine .plain (heap_lt hb) (Aa := some ⟨bc, 0, none⟩) (ca := 1) ?_ ?_ ?_ ?_ ?_ ?_ (atoms1 hc) (Nat.le_refl _) ?_
  iterate 6 simp [World.cell?, hb]
  refine .plain (heap_lt hb) (Aa := some ⟨ga, 0, none⟩) (ca := 2) ?_ ?_ ?_ ?_ ?_ ?_ (atoms2 ha) (Nat.le_refl _) ?_
  iterate 6 simp [World.cell?, hb]
  refine .plain (heap_lt hb) (Aa := some ⟨gs, 0, none⟩) (ca := 1) ?_ ?_ ?_ ?_ ?_ ?_ (atoms1 hs) (Nat.le_refl _) (.ret _ _ _ _)
  iterate 6 simp [World.cell?, hb]
theorem heap1_ (w : World) (a b : Obj) : ((w.alloc a).alloc b).heap[w.heap.size]? = some a :=
  (((Below.refl _ _).alloc (Nat.le_refl _) _ : Below (w.alloc a).heap.size (w.alloc a) ((w.alloc a).alloc b)).block w.heap.size (by simp)).trans (World.alloc_heap_new w a)
theorem heap2_ (w : World) (a b : Obj) : ((w.alloc a).alloc b).heap[w.heap.size + 1]? = some b := by
  have := World.alloc_heap_new (w.alloc a) b
  rw [World.size_alloc] at this
  exact this
theorem BodyIn.later {w w' : World} {t : Anf} {v : Array Value} (h : BodyIn w.heap.size w t v) (hb : Below w.heap.size w w') : BodyIn w'.heap.size w' t v := (h.kept hb).mono hb.size
theorem FlatIn.later {w w' : World} {p : FlatP} {v : Array Value} (h : FlatIn w.heap.size w p v) (hb : Below w.heap.size w w') : FlatIn w'.heap.size w' p v := (h.kept hb).mono hb.size
/-- a run in one word -/
def RunPost (pe : PEnd) (w : World) (e : Ending) (w' : World) : Prop := ∃ v A c, v = .agg #[.int .i64 pe.kind, .int .i64 pe.n, .slice A pe.out.length c, .int .i64 pe.steps] ∧ e = .returned v ∧ EndV w' pe v ∧ Below w.heap.size w w' ∧ (∀ a, A = some a → w.heap.size ≤ a.block)
theorem run_ready {w : World} {p : FlatP} {v : Array Value} (hin : FlatIn w.heap.size w p v) (hsm : SmallF p) {inp : List Int} {Ai : Option Addr} {ci : Nat} (hi : IntsIn w.heap.size w Ai inp) (hci : inp.length ≤ ci) (f : Int) :
    Calls Try.prog 9 #[.agg v, .slice Ai inp.length ci, .int .i64 f] w (RunPost (runE p inp f) w) := by
  refine (frun_any hin (Nat.le_refl _) (fun W v hin => cright_any hsm W hin) hi hci f).mono fun e w' ⟨A, c, h1, h2, h3, h4, h5⟩ => ⟨_, A, c, rfl, h1, ⟨A, c, rfl, h2⟩, h5, h4⟩
theorem ints_one {V : World} {b : Nat} {n : Int} (h : V.cell? ⟨b, 0, none⟩ = some (.int .i64 n)) : IntsIn V.heap.size V (some ⟨b, 0, none⟩) [n] := by
  refine ⟨by simp, .inr ⟨b, 0, rfl, World.block_lt_of_cell? _ _ h, fun j hj => ?_⟩⟩
  obtain rfl : j = 0 := by simpa using hj
  simpa [nth] using h

set_option maxRecDepth 100000 in
set_option maxHeartbeats 8000000 in
theorem kn_tail5 {W V : World} (hb : Below W.heap.size W V) {X2 X4 g5 gb : Nat} (h2 : V.heap[X2]? = some (.cells #[.slice (some ⟨g5, 0, none⟩) 2 2, .bool true, .int .i64 3] 27 (0, 0))) (h4 : V.heap[X4]? = some (.cells #[.slice (some ⟨gb, 0, none⟩) 3 3, .bool false, .int .i64 0] 27 (0, 0)))
    (hbody : BodyIn V.heap.size V kbody #[.slice (some ⟨g5, 0, none⟩) 2 2, .bool true, .int .i64 3]) (hmain : BodyIn V.heap.size V kmain #[.slice (some ⟨gb, 0, none⟩) 3 3, .bool false, .int .i64 0]) (u0 u1 u3 u5 u6 u7 u8 u9 u10 u11 u12 u13 u14 u15 u16 u17 u18 u19 u20 u21 u22 u23 u24 u25 u26 u27 u28 u29 u30 u31 u32 u33 u34 u35 u36 u37 u38 u39 u40 u41 u42 u43 u44 u45 u46 u47 u48 u49 u50 : Value) :
    knowsT5.wp Try.prog (bodyPost Try.prog Try.f8 (BoolBelow true W)) { tmps := #[u0, u1, .pointer (some ⟨X2, 0, none⟩), u3, .pointer (some ⟨X4, 0, none⟩), u5, u6, u7, u8, u9, u10, u11, u12, u13, u14, u15, u16, u17, u18, u19, u20, u21, u22, u23, u24, u25, u26, u27, u28, u29, u30, u31, u32, u33, u34, u35, u36, u37, u38, u39, u40, u41, u42, u43, u44, u45, u46, u47, u48, u49, u50], defers := [] } V := by
  obtain ⟨V5, hV5⟩ : ∃ V5, V.alloc (.cells #[.int .i64 0, .int .i64 1, .slice (some ⟨g5, 0, none⟩) 2 2, .bool true, .int .i64 3] 42) = V5 := ⟨_, rfl⟩
  have hb5 : Below V.heap.size V V5 := by rw [← hV5]; exact (Below.refl _ _).alloc (Nat.le_refl _) _
  have h55 : V5.heap[V.heap.size]? = some (.cells #[.int .i64 0, .int .i64 1, .slice (some ⟨g5, 0, none⟩) 2 2, .bool true, .int .i64 3] 42 (0, 0)) := by rw [← hV5]; exact World.alloc_heap_new V _
  have hflat : FlatIn V5.heap.size V5 kprog #[.slice (some ⟨V.heap.size, 0, none⟩) 1 1, .slice (some ⟨gb, 0, none⟩) 3 3, .bool false, .int .i64 0] := by
    refine ⟨some ⟨V.heap.size, 0, none⟩, 1, V.heap.size, 0, _, _, _, rfl, Nat.le_refl _, by simp [kprog], hmain.later hb5, fun _ => ⟨rfl, heap_lt h55⟩, fun j hj => ?_⟩
    obtain rfl : j = 0 := by simpa [kprog] using hj
    exact ⟨_, _, _, by simp [World.cell?, h55, kprog], by simp [World.cell?, h55, kprog], by simp [World.cell?, h55], by simp [World.cell?, h55], by simp [World.cell?, h55], hbody.later hb5⟩
  have hR := run_ready hflat ksmall (inp := []) (Ai := none) (ci := 0) (ints_nil _ _) (Nat.le_refl _) 99
  rw [know1] at hR
  have HR := Lib.hid hR
  have HB := Lib.hid (hb.trans (hb5.mono hb.size))
  have a0 : V.cell? ⟨X2, 0, none⟩ = some (.slice (some ⟨g5, 0, none⟩) 2 2) := by simp [World.cell?, h2]
  have a1 : V.cell? ⟨X2, 1, none⟩ = some (.bool true) := by simp [World.cell?, h2]
  have a2 : V.cell? ⟨X2, 2, none⟩ = some (.int .i64 3) := by simp [World.cell?, h2]
  have b0 : V5.cell? ⟨X4, 0, none⟩ = some (.slice (some ⟨gb, 0, none⟩) 3 3) := cell_behind hb5 (by simp [World.cell?, h4])
  have b1 : V5.cell? ⟨X4, 1, none⟩ = some (.bool false) := cell_behind hb5 (by simp [World.cell?, h4])
  have b2 : V5.cell? ⟨X4, 2, none⟩ = some (.int .i64 0) := cell_behind hb5 (by simp [World.cell?, h4])
  have hs5 : V.heap.size ≤ V5.heap.size := hb5.size
  have HW := Lib.hid hb.size
  clear hR hflat hb hb5 h55 hbody hmain h2 h4
  subst hV5
  obtain ⟨Q, hQ⟩ : ∃ Q, (bodyPost Try.prog Try.f8 (BoolBelow true W)) = Q := ⟨_, rfl⟩
  have HQ := Lib.hid hQ
  rw [hQ]
  clear hQ
  unfold knowsT5 Try.f8
  dsimp only
  go_wp2_with fail
  refine HR.out.mono ?_
  rintro e w2 ⟨v, A, c, rfl, rfl, hE, hb2, _⟩
  obtain ⟨A', c', heq, hi⟩ := hE
  simp only [Value.agg.injEq, Array.mk.injEq, List.cons.injEq, Value.slice.injEq, true_and, and_true] at heq
  obtain ⟨rfl, rfl⟩ := heq
  have HB2 := Lib.hid (HB.out.trans (hb2.mono HB.out.size))
  have HI := Lib.hid hi
  clear hb2 hi a0 a1 a2 b0 b1 b2 HR
  clear hs5
  have hb14 : Below w2.heap.size w2 ((w2.alloc (.cells #[.int .i64 1, .int .i64 0, .slice A 1 c, .int .i64 6] 35)).alloc (.cells #[.int .i64 12] 3)) := ((Below.refl _ _).alloc (Nat.le_refl _) _).alloc (by simp) _
  have h14 : ((w2.alloc (.cells #[.int .i64 1, .int .i64 0, .slice A 1 c, .int .i64 6] 35)).alloc (.cells #[.int .i64 12] 3)).cell? ⟨w2.heap.size + 1, 0, none⟩ = some (.int .i64 12) := by
    rw [World.cell?_alloc_at _ _ _ _ (by simp)]; rfl
  have h140 : ((w2.alloc (.cells #[.int .i64 1, .int .i64 0, .slice A 1 c, .int .i64 6] 35)).alloc (.cells #[.int .i64 12] 3)).heap[w2.heap.size]? = some (.cells #[.int .i64 1, .int .i64 0, .slice A 1 c, .int .i64 6] 35) :=
    (((Below.refl _ _).alloc (Nat.le_refl _) _ : Below (w2.alloc (.cells #[.int .i64 1, .int .i64 0, .slice A 1 c, .int .i64 6] 35)).heap.size _ _).block w2.heap.size (by simp)).trans (World.alloc_heap_new w2 _)
  have S1 := Lib.hid (sameInts_any (c := c) (c' := 1) _ ((HI.out.below hb14).mono hb14.size) (ints_one h14))
  have HB14 := Lib.hid (HB2.out.trans (hb14.mono HB2.out.size))
  go_wp2_with fail
  generalize (w2.alloc (.cells #[.int .i64 1, .int .i64 0, .slice A 1 c, .int .i64 6] 35)).alloc (.cells #[.int .i64 12] 3) = w14 at *
  refine S1.out.mono ?_
  rintro e w15 ⟨rfl, n1, rfl⟩
  have r0 : w14.cell? ⟨w2.heap.size, 3, none⟩ = some (.int .i64 6) := by simp [World.cell?, h140]
  clear hb14 h14
  go_wp2_with fail
  rw [← HQ.out]
  go_ret
  exact ⟨rfl, below_drewN HB14.out _⟩

set_option maxRecDepth 100000 in
set_option maxHeartbeats 8000000 in
theorem kn_tail3 {W V : World} (hb : Below W.heap.size W V) {X2 g5 : Nat} (h2 : V.heap[X2]? = some (.cells #[.slice (some ⟨g5, 0, none⟩) 2 2, .bool true, .int .i64 3] 27 (0, 0))) (hbody : BodyIn V.heap.size V kbody #[.slice (some ⟨g5, 0, none⟩) 2 2, .bool true, .int .i64 3]) (u0 u1 u3 u4 u5 u6 u7 u8 u9 u10 u11 u12 u13 u14 u15 u16 u17 u18 u19 u20 u21 u22 u23 u24 u25 u26 u27 u28 u29 u30 u31 u32 u33 u34 u35 u36 u37 u38 u39 u40 u41 u42 u43 u44 u45 u46 u47 u48 u49 u50 : Value) :
    knowsT3.wp Try.prog (bodyPost Try.prog Try.f8 (BoolBelow true W)) { tmps := #[u0, u1, .pointer (some ⟨X2, 0, none⟩), u3, u4, u5, u6, u7, u8, u9, u10, u11, u12, u13, u14, u15, u16, u17, u18, u19, u20, u21, u22, u23, u24, u25, u26, u27, u28, u29, u30, u31, u32, u33, u34, u35, u36, u37, u38, u39, u40, u41, u42, u43, u44, u45, u46, u47, u48, u49, u50], defers := [] } V := by
  have HINT := Lib.hid (mkint_any 7 V)
  have H2 := Lib.hid h2
  have HBODY := Lib.hid hbody
  have HB := Lib.hid hb
  clear h2 hbody hb
  obtain ⟨Q, hQ⟩ : ∃ Q, (bodyPost Try.prog Try.f8 (BoolBelow true W)) = Q := ⟨_, rfl⟩
  have HQ := Lib.hid hQ
  rw [hQ]
  clear hQ
  unfold knowsT3 Try.f8
  dsimp only
  go_wp2_with fail
  refine HINT.out.mono ?_
  rintro e w1 ⟨rfl, hb1⟩
  have HB1 := Lib.hid hb1
  clear hb1
  go_wp2_with fail
  have hQ2 := HQ.out
  subst hQ2
  obtain ⟨V3, hV3⟩ : ∃ V3, (w1.alloc (.cells #[.bool false, .int .i64 7] 25)).alloc (.cells #[.int .i64 0, .int .i64 9, .int .i64 0, .slice (some ⟨w1.heap.size, 0, none⟩) 1 1, .slice none 0 0, .slice none 0 0] 54) = V3 := ⟨_, rfl⟩
  rw [hV3]
  have hb3 : Below w1.heap.size w1 V3 := by rw [← hV3]; exact ((Below.refl _ _).alloc (Nat.le_refl _) _).alloc (by simp) _
  have hc3 : V3.heap[w1.heap.size]? = some (.cells #[.bool false, .int .i64 7] 25 (0, 0)) := by rw [← hV3]; exact heap1_ w1 _ _
  have hx3 : V3.heap[w1.heap.size + 1]? = some (.cells #[.int .i64 0, .int .i64 9, .int .i64 0, .slice (some ⟨w1.heap.size, 0, none⟩) 1 1, .slice none 0 0, .slice none 0 0] 54 (0, 0)) := by rw [← hV3]; exact heap2_ w1 _ _
  have hv3 : Below V.heap.size V V3 := HB1.out.trans (hb3.mono HB1.out.size)
  clear hV3
  refine kn_region4 (W := W) (V := V3) (X2 := X2) (X3 := w1.heap.size + 1) (bc := w1.heap.size) ?_ ?_ _ _ _ _ _ _ _ _ _ _ _ _ _ _ _ _ _ _ _ _ _ _ _ _ _ _ _ _ _ _ _ _ _ _ _ _ _ _ _ _ _ _ _ _ _ _ _ _ _ _ ‹∀ (a : Act) (w : World), Code.wp Try.prog _ _ a w → _›
  · intro V2 h
    have hx := (h.block _ (heap_lt hx3)).trans hx3
    exact ⟨by simp [World.cell?, hx], by simp [World.cell?, hx], by simp [World.cell?, hx], by simp [World.cell?, hx], by simp [World.cell?, hx], by simp [World.cell?, hx]⟩
  · intro V2 ga gs gb gp h ha hs hg hp y0 y1 y3 y5 y6 y7 y8 y9 y10 y11 y12 y13 y14 y15 y16 y17 y18 y19 y20 y21 y22 y23 y24 y25 y26 y27 y28 y29 y30 y31 y32 y33 y34 y35 y36 y37 y38 y39 y40 y41 y42 y43 y44 y45 y46 y47 y48 y49 y50
    have h0 := hv3.trans (h.mono hv3.size)
    exact kn_tail5 (HB.out.trans (h0.mono HB.out.size)) ((h0.block _ (heap_lt H2.out)).trans H2.out) hp (HBODY.out.later h0) (kmain_in ((h.block _ (heap_lt hc3)).trans hc3) ha hs hg) _ _ _ _ _ _ _ _ _ _ _ _ _ _ _ _ _ _ _ _ _ _ _ _ _ _ _ _ _ _ _ _ _ _ _ _ _ _ _ _ _ _ _ _ _ _ _ _ _

set_option maxRecDepth 100000 in
set_option maxHeartbeats 8000000 in
theorem knows_any (W : World) : Calls Try.prog 8 #[] W (BoolBelow true W) := by
  have HVAR := Lib.hid (mkvar_any 0 W)
  go_enter Try.func8, Try.ntmps8
  obtain ⟨Q, hQ⟩ : ∃ Q, (bodyPost Try.prog Try.f8 (BoolBelow true W)) = Q := ⟨_, rfl⟩
  have HQ := Lib.hid hQ
  rw [hQ]
  clear hQ
  go_wp2_with fail
  refine HVAR.out.mono ?_
  rintro e w1 ⟨rfl, hb1⟩
  have HB1 := Lib.hid hb1
  clear hb1
  go_wp2_with fail
  have hQ2 := HQ.out
  subst hQ2
  obtain ⟨V3, hV3⟩ : ∃ V3, (w1.alloc (.cells #[.bool true, .int .i64 0] 25)).alloc (.cells #[.int .i64 2, .int .i64 4, .int .i64 1, .slice (some ⟨w1.heap.size, 0, none⟩) 1 1, .slice none 0 0, .slice none 0 0] 54) = V3 := ⟨_, rfl⟩
  rw [hV3]
  have hb3 : Below w1.heap.size w1 V3 := by rw [← hV3]; exact ((Below.refl _ _).alloc (Nat.le_refl _) _).alloc (by simp) _
  have hc3 : V3.heap[w1.heap.size]? = some (.cells #[.bool true, .int .i64 0] 25 (0, 0)) := by rw [← hV3]; exact heap1_ w1 _ _
  have hx3 : V3.heap[w1.heap.size + 1]? = some (.cells #[.int .i64 2, .int .i64 4, .int .i64 1, .slice (some ⟨w1.heap.size, 0, none⟩) 1 1, .slice none 0 0, .slice none 0 0] 54 (0, 0)) := by rw [← hV3]; exact heap2_ w1 _ _
  have hv3 : Below W.heap.size W V3 := HB1.out.trans (hb3.mono HB1.out.size)
  clear hV3
  refine kn_region2 (W := W) (V := V3) (X1 := w1.heap.size + 1) (bf := w1.heap.size) ?_ ?_ _ _ _ _ _ _ _ _ _ _ _ _ _ _ _ _ _ _ _ _ _ _ _ _ _ _ _ _ _ _ _ _ _ _ _ _ _ _ _ _ _ _ _ _ _ _ _ _ _ _ _ ‹∀ (a : Act) (w : World), Code.wp Try.prog _ _ a w → _›
  · intro V2 h
    have hx := (h.block _ (heap_lt hx3)).trans hx3
    exact ⟨by simp [World.cell?, hx], by simp [World.cell?, hx], by simp [World.cell?, hx], by simp [World.cell?, hx], by simp [World.cell?, hx], by simp [World.cell?, hx]⟩
  · intro V2 g3 g5 g8 h h3 h5 h8 y0 y1 y3 y4 y5 y6 y7 y8 y9 y10 y11 y12 y13 y14 y15 y16 y17 y18 y19 y20 y21 y22 y23 y24 y25 y26 y27 y28 y29 y30 y31 y32 y33 y34 y35 y36 y37 y38 y39 y40 y41 y42 y43 y44 y45 y46 y47 y48 y49 y50
    exact kn_tail3 (hv3.trans (h.mono hv3.size)) h8 (kbody_in ((h.block _ (heap_lt hc3)).trans hc3) h3 h5) _ _ _ _ _ _ _ _ _ _ _ _ _ _ _ _ _ _ _ _ _ _ _ _ _ _ _ _ _ _ _ _ _ _ _ _ _ _ _ _ _ _ _ _ _ _ _ _ _ _
end Go.Proofs.Ytnobggabjpcbfaa

/-
  FevalFuns: its two runs, and what stands behind them.
-/
set_option linter.unusedVariables false
set_option linter.unusedSimpArgs false
namespace Go.Proofs.Ytnobggabjpcbfaa
open Go.RowKit

noncomputable def funsR4 : Code := match Try.f4.body with
  | some (.seq _ (.seq _ (.seq _ (.seq c _)))) => c
  | _ => .skip
noncomputable def funsT5 : Code := match Try.f4.body with
  | some (.seq _ (.seq _ (.seq _ (.seq _ c)))) => c
  | _ => .skip
set_option maxRecDepth 100000 in
set_option maxHeartbeats 16000000 in
theorem funs_tail5 {W V : World} (hb : Below W.heap.size W V) {X7 X8 : Nat} {pa pb : PEnd} (ha : EndAt V X7 pa) (hb2 : EndAt V X8 pb) (hsame : sameE pa pb = true ∧ pa.steps = pb.steps) (hkn : ∀ V2, Below V.heap.size V V2 → Calls Try.prog 8 #[] V2 (BoolBelow true V2)) (u0 u1 u2 u3 u4 u5 u6 u7 u8 u9 u12 u13 u14 u15 u16 u17 u18 u19 u20 u21 u22 u23 u24 u25 u26 u27 u28 u29 u30 u31 u32 u33 u34 u35 u36 u37 u38 u39 u40 u41 u42 u43 u44 u45 u46 u47 u48 u49 u50 u51 u52 u53 u54 u55 u56 u57 u58 u59 : Value) :
    funsT5.wp Try.prog (bodyPost Try.prog Try.f4 (BoolBelow true W)) { tmps := #[u0, u1, u2, u3, u4, u5, u6, u7, u8, u9, .pointer (some ⟨X7, 0, none⟩), .pointer (some ⟨X8, 0, none⟩), u12, u13, u14, u15, u16, u17, u18, u19, u20, u21, u22, u23, u24, u25, u26, u27, u28, u29, u30, u31, u32, u33, u34, u35, u36, u37, u38, u39, u40, u41, u42, u43, u44, u45, u46, u47, u48, u49, u50, u51, u52, u53, u54, u55, u56, u57, u58, u59], defers := [] } V := by
  obtain ⟨A, c, a0, a1, a2, a3, hia⟩ := endAt_cells ha
  obtain ⟨B, d, b0, b1, b2, b3, hib⟩ := endAt_cells hb2
  have HS1 := Lib.hid (same_any (v := .agg #[.int .i64 pa.kind, .int .i64 pa.n, .slice A pa.out.length c, .int .i64 pa.steps]) (u := .agg #[.int .i64 pb.kind, .int .i64 pb.n, .slice B pb.out.length d, .int .i64 pb.steps]) V ⟨A, c, rfl, hia⟩ ⟨B, d, rfl, hib⟩)
  rw [hsame.1] at HS1
  have HK := Lib.hid hkn
  have HB := Lib.hid hb
  have HC := Lib.hid (fun (V2 : World) (h : Below V.heap.size V V2) => (show V2.cell? ⟨X7, 3, none⟩ = some (.int .i64 pa.steps) ∧ V2.cell? ⟨X8, 3, none⟩ = some (.int .i64 pb.steps) from
    ⟨cell_behind h a3, cell_behind h b3⟩))
  have hst3 : ((pa.steps : Int) == (pb.steps : Int)) = true := by rw [hsame.2]; simp
  clear hia hib hb ha hb2 hsame hkn
  obtain ⟨Q, hQ⟩ : ∃ Q, (bodyPost Try.prog Try.f4 (BoolBelow true W)) = Q := ⟨_, rfl⟩
  have HQ := Lib.hid hQ
  rw [hQ]
  clear hQ
  unfold funsT5 Try.f4
  dsimp only
  go_wp2_with (first
    | (go_at_call 11; refine HS1.out.mono ?_; rintro en V2 ⟨rfl, hv2⟩; obtain ⟨q3, q4⟩ := HC.out _ hv2)
    | (go_at_call 8; refine (HK.out _ hv2).mono ?_; rintro en V4 ⟨rfl, hv4⟩))
  rw [← HQ.out]
  go_ret
  have h1 := HB.out.trans (hv2.mono HB.out.size)
  exact ⟨rfl, h1.trans (hv4.mono h1.size)⟩
open Go.Proofs.YtnobggabjpcbfaaW.PrintWords Go.Proofs.YtnobggabjpcbfaaW.PrintLast in
set_option maxRecDepth 100000 in
set_option maxHeartbeats 16000000 in
theorem funs_runs4 {W V : World} (hb : Below W.heap.size W V) {X3 X4 L ci p2 p3 e2 e3 g2 g3 h2 h3 : Nat} {Ai P2 P3 G2 G3 : Option Addr} {p4 : Bool} {p5 f sf : Int} {g4 : Bool} {g5 : Int} {pb pc : PEnd} (hsame : sameE pb pc = true ∧ pb.steps = pc.steps)
    (hS : ∀ V2, Below V.heap.size V V2 → V2.cell? ⟨X3, 0, none⟩ = some (.slice P2 p2 e2) ∧ V2.cell? ⟨X3, 1, none⟩ = some (.slice P3 p3 e3) ∧ V2.cell? ⟨X3, 2, none⟩ = some (.bool p4) ∧ V2.cell? ⟨X3, 3, none⟩ = some (.int .i64 p5))
    (hS2 : ∀ V2, Below V.heap.size V V2 → V2.cell? ⟨X4, 0, none⟩ = some (.slice G2 g2 h2) ∧ V2.cell? ⟨X4, 1, none⟩ = some (.slice G3 g3 h3) ∧ V2.cell? ⟨X4, 2, none⟩ = some (.bool g4) ∧ V2.cell? ⟨X4, 3, none⟩ = some (.int .i64 g5))
    (hsh : ∀ V2, Calls Try.prog 10 #[.int .i64 f] V2 fun e w' => e = .returned (.int .i64 sf) ∧ V2 = w')
    (hrb : ∀ V2, Below V.heap.size V V2 → Calls Try.prog 9 #[.agg #[.slice P2 p2 e2, .slice P3 p3 e3, .bool p4, .int .i64 p5], .slice Ai L ci, .int .i64 sf] V2 (RunPost pb V2))
    (hrc : ∀ V2, Below V.heap.size V V2 → Calls Try.prog 9 #[.agg #[.slice G2 g2 h2, .slice G3 g3 h3, .bool g4, .int .i64 g5], .slice Ai L ci, .int .i64 sf] V2 (RunPost pc V2))
    (hkn : ∀ V2, Below V.heap.size V V2 → Calls Try.prog 8 #[] V2 (BoolBelow true V2)) (u0 u2 u5 u6 u7 u8 u10 u11 u12 u13 u14 u15 u16 u17 u18 u19 u20 u21 u22 u23 u24 u25 u26 u27 u28 u29 u30 u31 u32 u33 u34 u35 u36 u37 u38 u39 u40 u41 u42 u43 u44 u45 u46 u47 u48 u49 u50 u51 u52 u53 u54 u55 u56 u57 u58 u59 : Value) :
    ∀ K : Act → World → Prop, (∀ a w, funsT5.wp Try.prog (bodyPost Try.prog Try.f4 (BoolBelow true W)) a w → K a w) → funsR4.wp Try.prog (Exit.then K (bodyPost Try.prog Try.f4 (BoolBelow true W))) { tmps := #[u0, .slice Ai L ci, u2, .int .i64 f, .pointer (some ⟨X3, 0, none⟩), u5, u6, u7, u8, .pointer (some ⟨X4, 0, none⟩), u10, u11, u12, u13, u14, u15, u16, u17, u18, u19, u20, u21, u22, u23, u24, u25, u26, u27, u28, u29, u30, u31, u32, u33, u34, u35, u36, u37, u38, u39, u40, u41, u42, u43, u44, u45, u46, u47, u48, u49, u50, u51, u52, u53, u54, u55, u56, u57, u58, u59], defers := [] } V := by
  intro K hK0
  have HK0 := Lib.hid hK0
  clear hK0
  have HEND := Lib.hid (fun (V2 : World) (X7 X8 : Nat) (hv : Below V.heap.size V V2) (he : EndAt V2 X7 pb) (hf : EndAt V2 X8 pc) (y0 y1 y2 y3 y4 y5 y6 y7 y8 y9 y12 y13 y14 y15 y16 y17 y18 y19 y20 y21 y22 y23 y24 y25 y26 y27 y28 y29 y30 y31 y32 y33 y34 y35 y36 y37 y38 y39 y40 y41 y42 y43 y44 y45 y46 y47 y48 y49 y50 y51 y52 y53 y54 y55 y56 y57 y58 y59 : Value) =>
    (show funsT5.wp Try.prog (bodyPost Try.prog Try.f4 (BoolBelow true W)) { tmps := #[y0, y1, y2, y3, y4, y5, y6, y7, y8, y9, .pointer (some ⟨X7, 0, none⟩), .pointer (some ⟨X8, 0, none⟩), y12, y13, y14, y15, y16, y17, y18, y19, y20, y21, y22, y23, y24, y25, y26, y27, y28, y29, y30, y31, y32, y33, y34, y35, y36, y37, y38, y39, y40, y41, y42, y43, y44, y45, y46, y47, y48, y49, y50, y51, y52, y53, y54, y55, y56, y57, y58, y59], defers := [] } V2 from
      funs_tail5 (hb.trans (hv.mono hb.size)) he hf hsame (fun V3 h3 => hkn V3 (hv.trans (h3.mono hv.size))) _ _ _ _ _ _ _ _ _ _ _ _ _ _ _ _ _ _ _ _ _ _ _ _ _ _ _ _ _ _ _ _ _ _ _ _ _ _ _ _ _ _ _ _ _ _ _ _ _ _ _ _ _ _ _ _ _ _))
  have HS := Lib.hid hS
  have HS2 := Lib.hid hS2
  have HSH := Lib.hid hsh
  have HRB := Lib.hid hrb
  have HRC := Lib.hid hrc
  have D0 := Lib.hid (show Below V.heap.size V V.drew from (Below.refl _ _).drew)
  clear hS hrb hrc hb hsh hsame hkn hS2
  unfold funsR4 Try.f4
  dsimp only
  refine start_ (n := 14) (S := fun w' => True) (ds := []) #[false, false, false, false, false, false, false, false, false, false, false, false, false, false] (by kernel_rfl) rfl rfl trivial (fun hHeld => ?_)
  clear hHeld
  refine inv_at (B := [0, 0, 0, 4, 15, 0, 0, 0, 159, 511, 0, 0, 4095, 8191]) [0, 1, 2, 3, 4, 5, 6, 7, 8, 9, 10, 11, 12, 13] (fun a0_ b a w' => ∃ A1 c1 A2 c2 X Y, a = putSel a0_ b [(0, 37, .agg #[.slice P2 p2 e2, .slice P3 p3 e3, .bool p4, .int .i64 p5]), (1, 38, .slice Ai L ci), (2, 39, .int .i64 f), (3, 40, .int .i64 sf), (4, 41, .agg #[.int .i64 pb.kind, .int .i64 pb.n, .slice A1 pb.out.length c1, .int .i64 pb.steps]), (5, 42, .agg #[.slice G2 g2 h2, .slice G3 g3 h3, .bool g4, .int .i64 g5]), (6, 43, .slice Ai L ci), (7, 44, .int .i64 f), (8, 45, .int .i64 sf), (9, 46, .agg #[.int .i64 pc.kind, .int .i64 pc.n, .slice A2 pc.out.length c2, .int .i64 pc.steps]), (10, 10, .pointer (some ⟨X, 0, none⟩)), (11, 11, .pointer (some ⟨Y, 0, none⟩))] ∧ Reg V [(b 4), (b 9), (b 10 && !b 12), (b 11 && !b 13), (b 12), (b 13)] [intsFa A1 pb.out, intsFa A2 pc.out, blkFa X zeroC, blkFa Y zeroC, blkFa X (endC pb A1 c1), blkFa Y (endC pc A2 c2)] w') rfl (by kernel_rfl) (by kernel_rfl) (by kernel_rfl) ?_ ?_ ?_
  · exact ⟨none, 0, none, 0, 0, 0, by simp only [putSel, Bool.false_eq_true, if_false], Reg.start D0.out (fun i => by match i with | 0 => rfl | 1 => rfl | 2 => rfl | 3 => rfl | 4 => rfl | 5 => rfl | i + 6 => simp)⟩
  · skip
    refine steps_cons ?_ ?_
    · rintro b a w' ⟨A1, c1, A2, c2, X, Y, ha, hI⟩ hb_ hon hoff
      refine ⟨_, rfl, fun K hK => ?_⟩
      have m3 : a.tmps[4]? = some (.pointer (some ⟨X3, 0, none⟩)) := by rw [ha]; exact (putSel_off rfl).trans rfl
      obtain ⟨z0, z1, z2, z3⟩ := HS.out w' hI.bel
      replace ha := Lib.hid ha
      have HI := Lib.hid hI
      clear hI
      refine value_ (w1 := w') (v := .agg #[.slice P2 p2 e2, .slice P3 p3 e3, .bool p4, .int .i64 p5]) (by rfl) rfl ?_ ?_
      · go_simp
        try rfl
      exact hK.out _ _ ⟨A1, c1, A2, c2, X, Y, (by rw [ha.out]; exact putSel_upk 0 hb_ rfl rfl rfl), (by have h := HI.out; have eb4 : up b 0 4 = b 4 := up_ne (by decide); have eb9 : up b 0 9 = b 9 := up_ne (by decide); have eb10 : up b 0 10 = b 10 := up_ne (by decide); have eb11 : up b 0 11 = b 11 := up_ne (by decide); have eb12 : up b 0 12 = b 12 := up_ne (by decide); have eb13 : up b 0 13 = b 13 := up_ne (by decide); rw [eb4, eb9, eb10, eb11, eb12, eb13]; exact h)⟩
    refine steps_cons ?_ ?_
    · rintro b a w' ⟨A1, c1, A2, c2, X, Y, ha, hI⟩ hb_ hon hoff
      refine ⟨_, rfl, fun K hK => ?_⟩
      have m1 : a.tmps[1]? = some (.slice Ai L ci) := by rw [ha]; exact (putSel_off rfl).trans rfl
      replace ha := Lib.hid ha
      have HI := Lib.hid hI
      clear hI
      refine value_ (w1 := w') (v := .slice Ai L ci) (by rfl) rfl ?_ ?_
      · go_simp
        try rfl
      exact hK.out _ _ ⟨A1, c1, A2, c2, X, Y, (by rw [ha.out]; exact putSel_upk 1 hb_ rfl rfl rfl), (by have h := HI.out; have eb4 : up b 1 4 = b 4 := up_ne (by decide); have eb9 : up b 1 9 = b 9 := up_ne (by decide); have eb10 : up b 1 10 = b 10 := up_ne (by decide); have eb11 : up b 1 11 = b 11 := up_ne (by decide); have eb12 : up b 1 12 = b 12 := up_ne (by decide); have eb13 : up b 1 13 = b 13 := up_ne (by decide); rw [eb4, eb9, eb10, eb11, eb12, eb13]; exact h)⟩
    refine steps_cons ?_ ?_
    · rintro b a w' ⟨A1, c1, A2, c2, X, Y, ha, hI⟩ hb_ hon hoff
      refine ⟨_, rfl, fun K hK => ?_⟩
      have m2 : a.tmps[3]? = some (.int .i64 f) := by rw [ha]; exact (putSel_off rfl).trans rfl
      replace ha := Lib.hid ha
      have HI := Lib.hid hI
      clear hI
      refine value_ (w1 := w') (v := .int .i64 f) (by rfl) rfl ?_ ?_
      · go_simp
        try rfl
      exact hK.out _ _ ⟨A1, c1, A2, c2, X, Y, (by rw [ha.out]; exact putSel_upk 2 hb_ rfl rfl rfl), (by have h := HI.out; have eb4 : up b 2 4 = b 4 := up_ne (by decide); have eb9 : up b 2 9 = b 9 := up_ne (by decide); have eb10 : up b 2 10 = b 10 := up_ne (by decide); have eb11 : up b 2 11 = b 11 := up_ne (by decide); have eb12 : up b 2 12 = b 12 := up_ne (by decide); have eb13 : up b 2 13 = b 13 := up_ne (by decide); rw [eb4, eb9, eb10, eb11, eb12, eb13]; exact h)⟩
    refine steps_cons ?_ ?_
    · rintro b a w' ⟨A1, c1, A2, c2, X, Y, ha, hI⟩ hb_ hon hoff
      refine ⟨_, rfl, fun K hK => ?_⟩
      have tq2 : a.tmps[39]? = some (.int .i64 f) := by rw [ha]; exact putSel_on (e := (2, 39, .int .i64 f)) 2 rfl rfl (hon 2 (by kernel_rfl)) rfl
      replace ha := Lib.hid ha
      have HI := Lib.hid hI
      clear hI
      refine goes_ Try.func10 (by kernel_rfl) rfl #[.int .i64 f] (by rfl) rfl rfl (by first | (simp only [List.map_toArray, List.map_cons, List.map_nil, Act.eval, Array.getD_eq_getD_getElem?, Option.getD_some, tq2]; done) | (simp only [List.map_toArray, List.map_cons, List.map_nil, Act.eval, Array.getD_eq_getD_getElem?, Option.getD_some, tq2]; rfl)) ?_
      refine (HSH.out w').mono ?_
      rintro e w2 ⟨rfl, rfl⟩
      exact ⟨_, rfl, hK.out _ _ ⟨A1, c1, A2, c2, X, Y, (by rw [ha.out]; exact putSel_upk 3 hb_ rfl rfl rfl), (by have h := HI.out; have eb4 : up b 3 4 = b 4 := up_ne (by decide); have eb9 : up b 3 9 = b 9 := up_ne (by decide); have eb10 : up b 3 10 = b 10 := up_ne (by decide); have eb11 : up b 3 11 = b 11 := up_ne (by decide); have eb12 : up b 3 12 = b 12 := up_ne (by decide); have eb13 : up b 3 13 = b 13 := up_ne (by decide); rw [eb4, eb9, eb10, eb11, eb12, eb13]; exact h)⟩⟩
    refine steps_cons ?_ ?_
    · rintro b a w' ⟨A1, c1, A2, c2, X, Y, ha, hI⟩ hb_ hon hoff
      refine ⟨_, rfl, fun K hK => ?_⟩
      have tq0 : a.tmps[37]? = some (.agg #[.slice P2 p2 e2, .slice P3 p3 e3, .bool p4, .int .i64 p5]) := by rw [ha]; exact putSel_on (e := (0, 37, .agg #[.slice P2 p2 e2, .slice P3 p3 e3, .bool p4, .int .i64 p5])) 0 rfl rfl (hon 0 (by kernel_rfl)) rfl
      have tq1 : a.tmps[38]? = some (.slice Ai L ci) := by rw [ha]; exact putSel_on (e := (1, 38, .slice Ai L ci)) 1 rfl rfl (hon 1 (by kernel_rfl)) rfl
      have tq3 : a.tmps[40]? = some (.int .i64 sf) := by rw [ha]; exact putSel_on (e := (3, 40, .int .i64 sf)) 3 rfl rfl (hon 3 (by kernel_rfl)) rfl
      replace ha := Lib.hid ha
      have HI := Lib.hid hI
      clear hI
      refine goes_ Try.func9 (by kernel_rfl) rfl #[.agg #[.slice P2 p2 e2, .slice P3 p3 e3, .bool p4, .int .i64 p5], .slice Ai L ci, .int .i64 sf] (by rfl) rfl rfl (by first | (simp only [List.map_toArray, List.map_cons, List.map_nil, Act.eval, Array.getD_eq_getD_getElem?, Option.getD_some, tq0, tq1, tq3]; done) | (simp only [List.map_toArray, List.map_cons, List.map_nil, Act.eval, Array.getD_eq_getD_getElem?, Option.getD_some, tq0, tq1, tq3]; rfl)) ?_
      refine (HRB.out w' HI.out.bel).mono ?_
      rintro e w2 ⟨v, A_, c_, rfl, rfl, hE, hb2, hlo⟩
      obtain ⟨A', c', heq, hi⟩ := hE
      simp only [Value.agg.injEq, Array.mk.injEq, List.cons.injEq, Value.slice.injEq, true_and, and_true] at heq
      obtain ⟨rfl, rfl⟩ := heq
      exact ⟨_, rfl, hK.out _ _ ⟨A_, c_, A2, c2, X, Y, (by rw [ha.out]; exact putSel_upk 4 hb_ rfl rfl rfl), HI.out.ints 0 hb2 rfl hi hlo (by intro j hj hc; have eb9 : up b 4 9 = b 9 := up_ne (by decide); have eb10 : up b 4 10 = b 10 := up_ne (by decide); have eb11 : up b 4 11 = b 11 := up_ne (by decide); have eb12 : up b 4 12 = b 12 := up_ne (by decide); have eb13 : up b 4 13 = b 13 := up_ne (by decide); have eb4 : up b 4 4 = true := up_self _ _; match j, hj, hc with | 0, hj, hc => exact absurd rfl hj | 1, hj, hc => (change (up b 4 9) = true at hc; rw [eb9, hoff 9 (by kernel_rfl)] at hc; simp at hc) | 2, hj, hc => (change (up b 4 10 && !up b 4 12) = true at hc; rw [eb10, eb12] at hc; exact ⟨hc, rfl⟩) | 3, hj, hc => (change (up b 4 11 && !up b 4 13) = true at hc; rw [eb11, eb13] at hc; exact ⟨hc, rfl⟩) | 4, hj, hc => (change (up b 4 12) = true at hc; rw [eb12, hoff 12 (by kernel_rfl)] at hc; simp at hc) | 5, hj, hc => (change (up b 4 13) = true at hc; rw [eb13, hoff 13 (by kernel_rfl)] at hc; simp at hc) | j + 6, hj, hc => simp at hc)⟩⟩
    refine steps_cons ?_ ?_
    · rintro b a w' ⟨A1, c1, A2, c2, X, Y, ha, hI⟩ hb_ hon hoff
      refine ⟨_, rfl, fun K hK => ?_⟩
      have m3 : a.tmps[9]? = some (.pointer (some ⟨X4, 0, none⟩)) := by rw [ha]; exact (putSel_off rfl).trans rfl
      obtain ⟨z0, z1, z2, z3⟩ := HS2.out w' hI.bel
      replace ha := Lib.hid ha
      have HI := Lib.hid hI
      clear hI
      refine value_ (w1 := w') (v := .agg #[.slice G2 g2 h2, .slice G3 g3 h3, .bool g4, .int .i64 g5]) (by rfl) rfl ?_ ?_
      · go_simp
        try rfl
      exact hK.out _ _ ⟨A1, c1, A2, c2, X, Y, (by rw [ha.out]; exact putSel_upk 5 hb_ rfl rfl rfl), (by have h := HI.out; have eb4 : up b 5 4 = b 4 := up_ne (by decide); have eb9 : up b 5 9 = b 9 := up_ne (by decide); have eb10 : up b 5 10 = b 10 := up_ne (by decide); have eb11 : up b 5 11 = b 11 := up_ne (by decide); have eb12 : up b 5 12 = b 12 := up_ne (by decide); have eb13 : up b 5 13 = b 13 := up_ne (by decide); rw [eb4, eb9, eb10, eb11, eb12, eb13]; exact h)⟩
    refine steps_cons ?_ ?_
    · rintro b a w' ⟨A1, c1, A2, c2, X, Y, ha, hI⟩ hb_ hon hoff
      refine ⟨_, rfl, fun K hK => ?_⟩
      have m1 : a.tmps[1]? = some (.slice Ai L ci) := by rw [ha]; exact (putSel_off rfl).trans rfl
      replace ha := Lib.hid ha
      have HI := Lib.hid hI
      clear hI
      refine value_ (w1 := w') (v := .slice Ai L ci) (by rfl) rfl ?_ ?_
      · go_simp
        try rfl
      exact hK.out _ _ ⟨A1, c1, A2, c2, X, Y, (by rw [ha.out]; exact putSel_upk 6 hb_ rfl rfl rfl), (by have h := HI.out; have eb4 : up b 6 4 = b 4 := up_ne (by decide); have eb9 : up b 6 9 = b 9 := up_ne (by decide); have eb10 : up b 6 10 = b 10 := up_ne (by decide); have eb11 : up b 6 11 = b 11 := up_ne (by decide); have eb12 : up b 6 12 = b 12 := up_ne (by decide); have eb13 : up b 6 13 = b 13 := up_ne (by decide); rw [eb4, eb9, eb10, eb11, eb12, eb13]; exact h)⟩
    refine steps_cons ?_ ?_
    · rintro b a w' ⟨A1, c1, A2, c2, X, Y, ha, hI⟩ hb_ hon hoff
      refine ⟨_, rfl, fun K hK => ?_⟩
      have m2 : a.tmps[3]? = some (.int .i64 f) := by rw [ha]; exact (putSel_off rfl).trans rfl
      replace ha := Lib.hid ha
      have HI := Lib.hid hI
      clear hI
      refine value_ (w1 := w') (v := .int .i64 f) (by rfl) rfl ?_ ?_
      · go_simp
        try rfl
      exact hK.out _ _ ⟨A1, c1, A2, c2, X, Y, (by rw [ha.out]; exact putSel_upk 7 hb_ rfl rfl rfl), (by have h := HI.out; have eb4 : up b 7 4 = b 4 := up_ne (by decide); have eb9 : up b 7 9 = b 9 := up_ne (by decide); have eb10 : up b 7 10 = b 10 := up_ne (by decide); have eb11 : up b 7 11 = b 11 := up_ne (by decide); have eb12 : up b 7 12 = b 12 := up_ne (by decide); have eb13 : up b 7 13 = b 13 := up_ne (by decide); rw [eb4, eb9, eb10, eb11, eb12, eb13]; exact h)⟩
    refine steps_cons ?_ ?_
    · rintro b a w' ⟨A1, c1, A2, c2, X, Y, ha, hI⟩ hb_ hon hoff
      refine ⟨_, rfl, fun K hK => ?_⟩
      have tq2 : a.tmps[44]? = some (.int .i64 f) := by rw [ha]; exact putSel_on (e := (7, 44, .int .i64 f)) 7 rfl rfl (hon 7 (by kernel_rfl)) rfl
      replace ha := Lib.hid ha
      have HI := Lib.hid hI
      clear hI
      refine goes_ Try.func10 (by kernel_rfl) rfl #[.int .i64 f] (by rfl) rfl rfl (by first | (simp only [List.map_toArray, List.map_cons, List.map_nil, Act.eval, Array.getD_eq_getD_getElem?, Option.getD_some, tq2]; done) | (simp only [List.map_toArray, List.map_cons, List.map_nil, Act.eval, Array.getD_eq_getD_getElem?, Option.getD_some, tq2]; rfl)) ?_
      refine (HSH.out w').mono ?_
      rintro e w2 ⟨rfl, rfl⟩
      exact ⟨_, rfl, hK.out _ _ ⟨A1, c1, A2, c2, X, Y, (by rw [ha.out]; exact putSel_upk 8 hb_ rfl rfl rfl), (by have h := HI.out; have eb4 : up b 8 4 = b 4 := up_ne (by decide); have eb9 : up b 8 9 = b 9 := up_ne (by decide); have eb10 : up b 8 10 = b 10 := up_ne (by decide); have eb11 : up b 8 11 = b 11 := up_ne (by decide); have eb12 : up b 8 12 = b 12 := up_ne (by decide); have eb13 : up b 8 13 = b 13 := up_ne (by decide); rw [eb4, eb9, eb10, eb11, eb12, eb13]; exact h)⟩⟩
    refine steps_cons ?_ ?_
    · rintro b a w' ⟨A1, c1, A2, c2, X, Y, ha, hI⟩ hb_ hon hoff
      refine ⟨_, rfl, fun K hK => ?_⟩
      have tq0 : a.tmps[42]? = some (.agg #[.slice G2 g2 h2, .slice G3 g3 h3, .bool g4, .int .i64 g5]) := by rw [ha]; exact putSel_on (e := (5, 42, .agg #[.slice G2 g2 h2, .slice G3 g3 h3, .bool g4, .int .i64 g5])) 5 rfl rfl (hon 5 (by kernel_rfl)) rfl
      have tq1 : a.tmps[43]? = some (.slice Ai L ci) := by rw [ha]; exact putSel_on (e := (6, 43, .slice Ai L ci)) 6 rfl rfl (hon 6 (by kernel_rfl)) rfl
      have tq3 : a.tmps[45]? = some (.int .i64 sf) := by rw [ha]; exact putSel_on (e := (8, 45, .int .i64 sf)) 8 rfl rfl (hon 8 (by kernel_rfl)) rfl
      replace ha := Lib.hid ha
      have HI := Lib.hid hI
      clear hI
      refine goes_ Try.func9 (by kernel_rfl) rfl #[.agg #[.slice G2 g2 h2, .slice G3 g3 h3, .bool g4, .int .i64 g5], .slice Ai L ci, .int .i64 sf] (by rfl) rfl rfl (by first | (simp only [List.map_toArray, List.map_cons, List.map_nil, Act.eval, Array.getD_eq_getD_getElem?, Option.getD_some, tq0, tq1, tq3]; done) | (simp only [List.map_toArray, List.map_cons, List.map_nil, Act.eval, Array.getD_eq_getD_getElem?, Option.getD_some, tq0, tq1, tq3]; rfl)) ?_
      refine (HRC.out w' HI.out.bel).mono ?_
      rintro e w2 ⟨v, A_, c_, rfl, rfl, hE, hb2, hlo⟩
      obtain ⟨A', c', heq, hi⟩ := hE
      simp only [Value.agg.injEq, Array.mk.injEq, List.cons.injEq, Value.slice.injEq, true_and, and_true] at heq
      obtain ⟨rfl, rfl⟩ := heq
      exact ⟨_, rfl, hK.out _ _ ⟨A1, c1, A_, c_, X, Y, (by rw [ha.out]; exact putSel_upk 9 hb_ rfl rfl rfl), HI.out.ints 1 hb2 rfl hi hlo (by intro j hj hc; have eb4 : up b 9 4 = b 4 := up_ne (by decide); have eb10 : up b 9 10 = b 10 := up_ne (by decide); have eb11 : up b 9 11 = b 11 := up_ne (by decide); have eb12 : up b 9 12 = b 12 := up_ne (by decide); have eb13 : up b 9 13 = b 13 := up_ne (by decide); have eb9 : up b 9 9 = true := up_self _ _; match j, hj, hc with | 0, hj, hc => (change (up b 9 4) = true at hc; rw [eb4] at hc; exact ⟨hc, rfl⟩) | 1, hj, hc => exact absurd rfl hj | 2, hj, hc => (change (up b 9 10 && !up b 9 12) = true at hc; rw [eb10, eb12] at hc; exact ⟨hc, rfl⟩) | 3, hj, hc => (change (up b 9 11 && !up b 9 13) = true at hc; rw [eb11, eb13] at hc; exact ⟨hc, rfl⟩) | 4, hj, hc => (change (up b 9 12) = true at hc; rw [eb12, hoff 12 (by kernel_rfl)] at hc; simp at hc) | 5, hj, hc => (change (up b 9 13) = true at hc; rw [eb13, hoff 13 (by kernel_rfl)] at hc; simp at hc) | j + 6, hj, hc => simp at hc)⟩⟩
    refine steps_cons ?_ ?_
    · rintro b a w' ⟨A1, c1, A2, c2, X, Y, ha, hI⟩ hb_ hon hoff
      refine ⟨_, rfl, fun K hK => ?_⟩
      replace ha := Lib.hid ha
      have HI := Lib.hid hI
      clear hI
      refine value_ (w1 := w'.alloc (.cells #[.int .i64 0, .int .i64 0, .slice none 0 0, .int .i64 0] 35)) (v := .pointer (some ⟨w'.heap.size, 0, none⟩)) (by rfl) rfl ?_ ?_
      · go_simp
        try rfl
      exact hK.out _ _ ⟨A1, c1, A2, c2, w'.heap.size, Y, (by rw [ha.out]; exact putSel_upk 10 hb_ rfl rfl rfl), HI.out.new 2 rfl (by intro j hj hc; have eb4 : up b 10 4 = b 4 := up_ne (by decide); have eb9 : up b 10 9 = b 9 := up_ne (by decide); have eb11 : up b 10 11 = b 11 := up_ne (by decide); have eb12 : up b 10 12 = b 12 := up_ne (by decide); have eb13 : up b 10 13 = b 13 := up_ne (by decide); have eb10 : up b 10 10 = true := up_self _ _; match j, hj, hc with | 0, hj, hc => (change (up b 10 4) = true at hc; rw [eb4] at hc; exact ⟨hc, rfl⟩) | 1, hj, hc => (change (up b 10 9) = true at hc; rw [eb9] at hc; exact ⟨hc, rfl⟩) | 2, hj, hc => exact absurd rfl hj | 3, hj, hc => (change (up b 10 11 && !up b 10 13) = true at hc; rw [eb11, eb13] at hc; exact ⟨hc, rfl⟩) | 4, hj, hc => (change (up b 10 12) = true at hc; rw [eb12, hoff 12 (by kernel_rfl)] at hc; simp at hc) | 5, hj, hc => (change (up b 10 13) = true at hc; rw [eb13, hoff 13 (by kernel_rfl)] at hc; simp at hc) | j + 6, hj, hc => simp at hc)⟩
    refine steps_cons ?_ ?_
    · rintro b a w' ⟨A1, c1, A2, c2, X, Y, ha, hI⟩ hb_ hon hoff
      refine ⟨_, rfl, fun K hK => ?_⟩
      replace ha := Lib.hid ha
      have HI := Lib.hid hI
      clear hI
      refine value_ (w1 := w'.alloc (.cells #[.int .i64 0, .int .i64 0, .slice none 0 0, .int .i64 0] 35)) (v := .pointer (some ⟨w'.heap.size, 0, none⟩)) (by rfl) rfl ?_ ?_
      · go_simp
        try rfl
      exact hK.out _ _ ⟨A1, c1, A2, c2, X, w'.heap.size, (by rw [ha.out]; exact putSel_upk 11 hb_ rfl rfl rfl), HI.out.new 3 rfl (by intro j hj hc; have eb4 : up b 11 4 = b 4 := up_ne (by decide); have eb9 : up b 11 9 = b 9 := up_ne (by decide); have eb10 : up b 11 10 = b 10 := up_ne (by decide); have eb12 : up b 11 12 = b 12 := up_ne (by decide); have eb13 : up b 11 13 = b 13 := up_ne (by decide); have eb11 : up b 11 11 = true := up_self _ _; match j, hj, hc with | 0, hj, hc => (change (up b 11 4) = true at hc; rw [eb4] at hc; exact ⟨hc, rfl⟩) | 1, hj, hc => (change (up b 11 9) = true at hc; rw [eb9] at hc; exact ⟨hc, rfl⟩) | 2, hj, hc => (change (up b 11 10 && !up b 11 12) = true at hc; rw [eb10, eb12] at hc; exact ⟨hc, rfl⟩) | 3, hj, hc => exact absurd rfl hj | 4, hj, hc => (change (up b 11 12) = true at hc; rw [eb12, hoff 12 (by kernel_rfl)] at hc; simp at hc) | 5, hj, hc => (change (up b 11 13) = true at hc; rw [eb13, hoff 13 (by kernel_rfl)] at hc; simp at hc) | j + 6, hj, hc => simp at hc)⟩
    refine steps_cons ?_ ?_
    · rintro b a w' ⟨A1, c1, A2, c2, X, Y, ha, hI⟩ hb_ hon hoff
      refine ⟨_, rfl, fun K hK => ?_⟩
      have tq4 : a.tmps[41]? = some (.agg #[.int .i64 pb.kind, .int .i64 pb.n, .slice A1 pb.out.length c1, .int .i64 pb.steps]) := by rw [ha]; exact putSel_on (e := (4, 41, .agg #[.int .i64 pb.kind, .int .i64 pb.n, .slice A1 pb.out.length c1, .int .i64 pb.steps])) 4 rfl rfl (hon 4 (by kernel_rfl)) rfl
      have tq7 : a.tmps[10]? = some (.pointer (some ⟨X, 0, none⟩)) := by rw [ha]; exact putSel_on (e := (10, 10, .pointer (some ⟨X, 0, none⟩))) 10 rfl rfl (hon 10 (by kernel_rfl)) rfl
      obtain ⟨y0, y1, y2, y3, y4⟩ := zeroC_cells ((hI.hold 2 (by show (b 10 && !b 12) = true; rw [hon 10 (by kernel_rfl), hb_]; try rfl)).1)
      replace ha := Lib.hid ha
      have HI := Lib.hid hI
      clear hI
      refine skip_ (w1 := setE w' X pb A1 c1) (by rfl) rfl ?_ ?_
      · unfold setE
        go_simp
        try rfl
      exact hK.out _ _ ⟨A1, c1, A2, c2, X, Y, (by rw [ha.out]; exact (putSel_skipY rfl).symm), HI.out.turn 2 4 (by show (b 10 && !b 12) = true; rw [hon 10 (by kernel_rfl), hb_]; try rfl) rfl (chg_setE _ _ _ _ _) rfl (setE_self (HI.out.hold 2 (by show (b 10 && !b 12) = true; rw [hon 10 (by kernel_rfl), hb_]; try rfl)).1 _ _ _) (by intro j hj hc; have eb4 : up b 12 4 = b 4 := up_ne (by decide); have eb9 : up b 12 9 = b 9 := up_ne (by decide); have eb10 : up b 12 10 = b 10 := up_ne (by decide); have eb11 : up b 12 11 = b 11 := up_ne (by decide); have eb13 : up b 12 13 = b 13 := up_ne (by decide); have eb12 : up b 12 12 = true := up_self _ _; match j, hj, hc with | 0, hj, hc => (change (up b 12 4) = true at hc; rw [eb4] at hc; exact ⟨hc, rfl, by decide⟩) | 1, hj, hc => (change (up b 12 9) = true at hc; rw [eb9] at hc; exact ⟨hc, rfl, by decide⟩) | 2, hj, hc => (change (up b 12 10 && !up b 12 12) = true at hc; rw [eb10, eb12] at hc; simp at hc) | 3, hj, hc => (change (up b 12 11 && !up b 12 13) = true at hc; rw [eb11, eb13] at hc; exact ⟨hc, rfl, by decide⟩) | 4, hj, hc => exact absurd rfl hj | 5, hj, hc => (change (up b 12 13) = true at hc; rw [eb13, hoff 13 (by kernel_rfl)] at hc; simp at hc) | j + 6, hj, hc => simp at hc)⟩
    refine steps_cons ?_ ?_
    · rintro b a w' ⟨A1, c1, A2, c2, X, Y, ha, hI⟩ hb_ hon hoff
      refine ⟨_, rfl, fun K hK => ?_⟩
      have tq9 : a.tmps[46]? = some (.agg #[.int .i64 pc.kind, .int .i64 pc.n, .slice A2 pc.out.length c2, .int .i64 pc.steps]) := by rw [ha]; exact putSel_on (e := (9, 46, .agg #[.int .i64 pc.kind, .int .i64 pc.n, .slice A2 pc.out.length c2, .int .i64 pc.steps])) 9 rfl rfl (hon 9 (by kernel_rfl)) rfl
      have tq8 : a.tmps[11]? = some (.pointer (some ⟨Y, 0, none⟩)) := by rw [ha]; exact putSel_on (e := (11, 11, .pointer (some ⟨Y, 0, none⟩))) 11 rfl rfl (hon 11 (by kernel_rfl)) rfl
      obtain ⟨y0, y1, y2, y3, y4⟩ := zeroC_cells ((hI.hold 3 (by show (b 11 && !b 13) = true; rw [hon 11 (by kernel_rfl), hb_]; try rfl)).1)
      replace ha := Lib.hid ha
      have HI := Lib.hid hI
      clear hI
      refine skip_ (w1 := setE w' Y pc A2 c2) (by rfl) rfl ?_ ?_
      · unfold setE
        go_simp
        try rfl
      exact hK.out _ _ ⟨A1, c1, A2, c2, X, Y, (by rw [ha.out]; exact (putSel_skipY rfl).symm), HI.out.turn 3 5 (by show (b 11 && !b 13) = true; rw [hon 11 (by kernel_rfl), hb_]; try rfl) rfl (chg_setE _ _ _ _ _) rfl (setE_self (HI.out.hold 3 (by show (b 11 && !b 13) = true; rw [hon 11 (by kernel_rfl), hb_]; try rfl)).1 _ _ _) (by intro j hj hc; have eb4 : up b 13 4 = b 4 := up_ne (by decide); have eb9 : up b 13 9 = b 9 := up_ne (by decide); have eb10 : up b 13 10 = b 10 := up_ne (by decide); have eb11 : up b 13 11 = b 11 := up_ne (by decide); have eb12 : up b 13 12 = b 12 := up_ne (by decide); have eb13 : up b 13 13 = true := up_self _ _; match j, hj, hc with | 0, hj, hc => (change (up b 13 4) = true at hc; rw [eb4] at hc; exact ⟨hc, rfl, by decide⟩) | 1, hj, hc => (change (up b 13 9) = true at hc; rw [eb9] at hc; exact ⟨hc, rfl, by decide⟩) | 2, hj, hc => (change (up b 13 10 && !up b 13 12) = true at hc; rw [eb10, eb12] at hc; exact ⟨hc, rfl, by decide⟩) | 3, hj, hc => (change (up b 13 11 && !up b 13 13) = true at hc; rw [eb11, eb13] at hc; simp at hc) | 4, hj, hc => (change (up b 13 12) = true at hc; rw [eb12] at hc; exact ⟨hc, rfl, by decide⟩) | 5, hj, hc => exact absurd rfl hj | j + 6, hj, hc => simp at hc)⟩
    exact steps_nil
  rintro b a w' hall ⟨A1, c1, A2, c2, X, Y, ha, hI⟩
  have hl : ∀ j, j ≤ 13 → b j = true := fun j hj => hall j (by
    have : j = 0 ∨ j = 1 ∨ j = 2 ∨ j = 3 ∨ j = 4 ∨ j = 5 ∨ j = 6 ∨ j = 7 ∨ j = 8 ∨ j = 9 ∨ j = 10 ∨ j = 11 ∨ j = 12 ∨ j = 13 := by omega
    rcases this with rfl | rfl | rfl | rfl | rfl | rfl | rfl | rfl | rfl | rfl | rfl | rfl | rfl | rfl <;> rfl)
  have b0 := hl 0 (by decide)
  have b1 := hl 1 (by decide)
  have b2 := hl 2 (by decide)
  have b3 := hl 3 (by decide)
  have b4 := hl 4 (by decide)
  have b5 := hl 5 (by decide)
  have b6 := hl 6 (by decide)
  have b7 := hl 7 (by decide)
  have b8 := hl 8 (by decide)
  have b9 := hl 9 (by decide)
  have b10 := hl 10 (by decide)
  have b11 := hl 11 (by decide)
  have b12 := hl 12 (by decide)
  have b13 := hl 13 (by decide)
  have f0 := (hI.hold 0 (by show (b 4) = true; rw [b4]; try rfl)).1
  have f1 := (hI.hold 1 (by show (b 9) = true; rw [b9]; try rfl)).1
  have f4 := (hI.hold 4 (by show (b 12) = true; rw [b12]; try rfl)).1
  have f5 := (hI.hold 5 (by show (b 13) = true; rw [b13]; try rfl)).1
  have hbel := hI.bel
  clear hI
  subst ha
  simp only [putSel, b0, b1, b2, b3, b4, b5, b6, b7, b8, b9, b10, b11, if_true, Act.put, List.setIfInBounds_toArray, List.set_cons_zero, List.set_cons_succ, Exit.then]
  exact HK0.out _ _ (HEND.out _ X Y hbel ⟨A1, c1, f4, f0⟩ ⟨A2, c2, f5, f1⟩ _ _ _ _ _ _ _ _ _ _ _ _ _ _ _ _ _ _ _ _ _ _ _ _ _ _ _ _ _ _ _ _ _ _ _ _ _ _ _ _ _ _ _ _ _ _ _ _ _ _ _ _ _ _ _ _ _ _)
end Go.Proofs.Ytnobggabjpcbfaa

/-
  Flat programs that a law puts together: rows of functions.
-/
set_option linter.unusedVariables false
set_option linter.unusedSimpArgs false
namespace Go.Proofs.Ytnobggabjpcbfaa
open Go.RowKit

/-- functions' cells in a row -/
def FunsRow (B : Nat) (w : World) (L : List FFun) (news : List Value) : Prop :=
  news.length = L.length * 5 ∧ ∀ j (h : j < L.length), ∃ g0 g1 g2, news[j * 5]? = some (.int .i64 L[j].env) ∧ news[j * 5 + 1]? = some (.int .i64 L[j].param) ∧ news[j * 5 + 2]? = some g0 ∧ news[j * 5 + 3]? = some g1 ∧ news[j * 5 + 4]? = some g2 ∧ BodyIn B w L[j].body #[g0, g1, g2]
theorem FunsRow.kept {B : Nat} {w w' : World} {L : List FFun} {news : List Value} (hb : Below B w w') (h : FunsRow B w L news) : FunsRow B w' L news :=
  ⟨h.1, fun j hj => by obtain ⟨g0, g1, g2, e0, e1, e2, e3, e4, e5⟩ := h.2 j hj; exact ⟨g0, g1, g2, e0, e1, e2, e3, e4, e5.kept hb⟩⟩
theorem FunsRow.mono {B B' : Nat} {w : World} {L : List FFun} {news : List Value} (hB : B ≤ B') (h : FunsRow B w L news) : FunsRow B' w L news :=
  ⟨h.1, fun j hj => by obtain ⟨g0, g1, g2, e0, e1, e2, e3, e4, e5⟩ := h.2 j hj; exact ⟨g0, g1, g2, e0, e1, e2, e3, e4, e5.mono hB⟩⟩
theorem FunsRow.nil {B : Nat} {w : World} : FunsRow B w [] [] := ⟨rfl, fun j h => absurd h (Nat.not_lt_zero _)⟩
theorem FunsRow.snoc {B : Nat} {w : World} {L : List FFun} {news : List Value} (h : FunsRow B w L news) {g : FFun} {g0 g1 g2 : Value} (hg : BodyIn B w g.body #[g0, g1, g2]) : FunsRow B w (L ++ [g]) (news ++ [.int .i64 g.env, .int .i64 g.param, g0, g1, g2]) := by
  obtain ⟨h1, h2⟩ := h
  refine ⟨by simp [h1]; omega, fun j hj => ?_⟩
  by_cases hjl : j < L.length
  · obtain ⟨a, b, c, e0, e1, e2, e3, e4, e5⟩ := h2 j hjl
    rw [List.getElem_append_left hjl]
    exact ⟨a, b, c, by rw [List.getElem?_append_left (by omega)]; exact e0, by rw [List.getElem?_append_left (by omega)]; exact e1, by rw [List.getElem?_append_left (by omega)]; exact e2, by rw [List.getElem?_append_left (by omega)]; exact e3, by rw [List.getElem?_append_left (by omega)]; exact e4, e5⟩
  · have : j = L.length := by simp at hj; omega
    subst this
    rw [List.getElem_append_right (Nat.le_refl _)]
    simp only [Nat.sub_self, List.getElem_cons_zero]
    have e : ∀ k, (news ++ [.int .i64 g.env, .int .i64 g.param, g0, g1, g2])[L.length * 5 + k]? = ([.int .i64 g.env, .int .i64 g.param, g0, g1, g2] : List Value)[k]? := fun k => by
      rw [List.getElem?_append_right (by omega), h1]
      congr 1
      omega
    exact ⟨g0, g1, g2, e 0, e 1, e 2, e 3, e 4, hg⟩
/-- the functions of a program that lies in memory -/
theorem funs_news {B : Nat} {w : World} {L : List FFun} {Af : Option Addr} {b o : Nat} (hA : 0 < L.length → Af = some ⟨b, o, none⟩ ∧ b < B)
    (hfun : ∀ j (h : j < L.length), ∃ g0 g1 g2, w.cell? ⟨b, o + j * 5, none⟩ = some (.int .i64 L[j].env) ∧ w.cell? ⟨b, o + j * 5 + 1, none⟩ = some (.int .i64 L[j].param) ∧ w.cell? ⟨b, o + j * 5 + 2, none⟩ = some g0 ∧ w.cell? ⟨b, o + j * 5 + 3, none⟩ = some g1 ∧ w.cell? ⟨b, o + j * 5 + 4, none⟩ = some g2 ∧ BodyIn B w L[j].body #[g0, g1, g2]) :
    ∃ news, FunsRow B w L news ∧ (∀ u ∈ news, u.oneCell' = true) ∧ ∀ V, Below B w V → RowI V Af news := by
  have each : ∀ j : Nat, ∃ g : Value × Value × Value, ∀ h : j < L.length, w.cell? ⟨b, o + j * 5, none⟩ = some (.int .i64 L[j].env) ∧ w.cell? ⟨b, o + j * 5 + 1, none⟩ = some (.int .i64 L[j].param) ∧ w.cell? ⟨b, o + j * 5 + 2, none⟩ = some g.1 ∧ w.cell? ⟨b, o + j * 5 + 3, none⟩ = some g.2.1 ∧ w.cell? ⟨b, o + j * 5 + 4, none⟩ = some g.2.2 ∧ BodyIn B w L[j].body #[g.1, g.2.1, g.2.2] := fun j => by
    by_cases hj : j < L.length
    · obtain ⟨g0, g1, g2, e⟩ := hfun j hj
      exact ⟨(g0, g1, g2), fun _ => e⟩
    · exact ⟨(.bool false, .bool false, .bool false), fun h => absurd h hj⟩
  obtain ⟨G, hG⟩ := Classical.axiomOfChoice each
  have main : ∀ n, n ≤ L.length → ∃ news, FunsRow B w (L.take n) news ∧ (∀ u ∈ news, u.oneCell' = true) ∧ ∀ j u, news[j]? = some u → w.cell? ⟨b, o + j, none⟩ = some u := by
    intro n
    induction n with
    | zero => exact fun _ => ⟨[], by simpa using FunsRow.nil, by simp, by simp⟩
    | succ n ih =>
      intro hn
      obtain ⟨news, h1, h2, h3⟩ := ih (by omega)
      obtain ⟨e0, e1, e2, e3, e4, e5⟩ := hG n (by omega)
      have hl := h1.1
      rw [List.length_take, Nat.min_eq_left (by omega)] at hl
      obtain ⟨A0, c0, b0, o0, hv, -⟩ := e5.at_
      simp only [Array.mk.injEq, List.cons.injEq, and_true] at hv
      refine ⟨news ++ [.int .i64 L[n].env, .int .i64 L[n].param, (G n).1, (G n).2.1, (G n).2.2], ?_, ?_, fun j u hj => ?_⟩
      · have := h1.snoc (g := L[n]) e5
        rwa [List.take_append_getElem (by omega)] at this
      · intro u hu
        rcases List.mem_append.1 hu with hu | hu
        · exact h2 u hu
        · simp only [List.mem_cons, List.not_mem_nil, or_false] at hu
          rcases hu with rfl | rfl | rfl | rfl | rfl
          · rfl
          · rfl
          · rw [hv.1]; rfl
          · rw [hv.2.1]; rfl
          · rw [hv.2.2]; rfl
      · by_cases hjl : j < news.length
        · rw [List.getElem?_append_left hjl] at hj
          exact h3 j u hj
        · rw [List.getElem?_append_right (by omega), hl] at hj
          have hlt := (List.getElem?_eq_some_iff.1 hj).1
          simp only [List.length_cons, List.length_nil] at hlt
          obtain ⟨k, hk, rfl⟩ : ∃ k, k < 5 ∧ j = n * 5 + k := ⟨j - n * 5, by omega, by omega⟩
          rw [Nat.add_sub_cancel_left] at hj
          rw [← Nat.add_assoc]
          have : k = 0 ∨ k = 1 ∨ k = 2 ∨ k = 3 ∨ k = 4 := by omega
          rcases this with rfl | rfl | rfl | rfl | rfl <;> simp only [List.getElem?_cons_zero, List.getElem?_cons_succ, Option.some.injEq] at hj <;> subst hj
          · exact e0
          · exact e1
          · exact e2
          · exact e3
          · exact e4
  obtain ⟨news, h1, h2, h3⟩ := main L.length (Nat.le_refl _)
  rw [List.take_length] at h1
  refine ⟨news, h1, h2, fun V hV => ?_⟩
  by_cases h0 : L.length = 0
  · have hn : news = [] := List.length_eq_zero_iff.1 (by rw [h1.1, h0])
    subst hn
    rcases Af with _ | ad
    · exact .inl ⟨rfl, rfl⟩
    · exact .inr ⟨ad, rfl, by simp⟩
  · obtain ⟨rfl, hlt⟩ := hA (by omega)
    refine .inr ⟨_, rfl, fun j u hj => ?_⟩
    rw [add_plain]
    exact (hV.cell (p := ⟨_, _, none⟩) hlt).trans (h3 j u hj)
theorem infoFun : (Try.prog.info? 42).map (fun i => (i.zero, i.size, i.bytes)) = some (some (.agg #[.int .i64 0, .int .i64 0, .slice none 0 0, .bool false, .int .i64 0]), 5, 56) := by kernel_rfl
/-- a program whose functions' row has been filled -/
theorem flat_of_row {base : Nat} {w : World} {L : List FFun} {news : List Value} {v m0 m1 m2 : Value} {main : Anf} (hown : w.ownsRow base 42 5 v L.length news) (hrow : FunsRow w.heap.size w L news) (hm : BodyIn w.heap.size w main #[m0, m1, m2]) (hl : L.length * 56 ≤ 140737488351232) :
    ∃ A c, v = .slice A L.length c ∧ FlatIn w.heap.size w ⟨L, main⟩ #[.slice A L.length c, m0, m1, m2] := by
  rcases hown.2 with ⟨rfl, h0⟩ | ⟨g, cap, cur, rfl, _, _, hnc, _⟩
  · refine ⟨none, 0, by rw [h0], none, 0, 0, 0, m0, m1, m2, rfl, by simp [h0], hl, hm, fun h => absurd h (by simp [h0]), fun j hj => absurd hj (by simp [h0])⟩
  · refine ⟨_, cap, rfl, _, cap, g, 0, m0, m1, m2, rfl, hnc, hl, hm, fun _ => ⟨rfl, (hown.lt g rfl).2⟩, fun j hj => ?_⟩
    obtain ⟨g0, g1, g2, e0, e1, e2, e3, e4, e5⟩ := hrow.2 j hj
    have hc : ∀ k u, news[k]? = some u → w.cell? ⟨g, 0 + k, none⟩ = some u := fun k u hk => by
      have := World.ownsRow.cells hown (g := g) rfl k u hk
      rwa [add_plain] at this
    exact ⟨g0, g1, g2, hc _ _ e0, by rw [Nat.add_assoc]; exact hc _ _ e1, by rw [Nat.add_assoc]; exact hc _ _ e2, by rw [Nat.add_assoc]; exact hc _ _ e3, by rw [Nat.add_assoc]; exact hc _ _ e4, e5⟩
end Go.Proofs.Ytnobggabjpcbfaa

/-
  FevalFuns: the program with one function more is put together.
-/
set_option linter.unusedVariables false
set_option linter.unusedSimpArgs false
namespace Go.Proofs.Ytnobggabjpcbfaa
open Go.RowKit

noncomputable def funsR1 : Code := match Try.f4.body with
  | some (.seq _ (.seq c _)) => c
  | _ => .skip
noncomputable def funsT2 : Code := match Try.f4.body with
  | some (.seq _ (.seq _ c)) => c
  | _ => .skip
open Go.Proofs.YtnobggabjpcbfaaW.PrintWords Go.Proofs.YtnobggabjpcbfaaW.PrintLast in
set_option maxRecDepth 100000 in
set_option maxHeartbeats 16000000 in
theorem funs_build {W V : World} {X4 X6 L ci nf cf n1 d1 mn mc : Nat} {Ai Af A1 M0 : Option Addr} {b1 mb : Bool} {k1 f me mp mi : Int} {news : List Value} (hnl : news.length = nf * 5) (h56 : (nf + 1) * 56 ≤ 140737488355328)
    (hS : ∀ V2, Below V.heap.size V V2 → V2.cell? ⟨X4, 0, none⟩ = some (.slice Af nf cf) ∧ V2.cell? ⟨X4, 1, none⟩ = some (.slice A1 n1 d1) ∧ V2.cell? ⟨X4, 2, none⟩ = some (.bool b1) ∧ V2.cell? ⟨X4, 3, none⟩ = some (.int .i64 k1)) (hS6 : ∀ V2, Below V.heap.size V V2 → V2.cell? ⟨X6, 0, none⟩ = some (.int .i64 me) ∧ V2.cell? ⟨X6, 1, none⟩ = some (.int .i64 mp) ∧ V2.cell? ⟨X6, 2, none⟩ = some (.slice M0 mn mc) ∧ V2.cell? ⟨X6, 3, none⟩ = some (.bool mb) ∧ V2.cell? ⟨X6, 4, none⟩ = some (.int .i64 mi))
    (hrow : ∀ V2, Below V.heap.size V V2 → RowI V2 Af news) (hone : ∀ u ∈ news, u.oneCell' = true)
    (hend : ∀ (V2 : World) (X9 : Nat) (A9 : Option Addr) (c9 : Nat), Below V.heap.size V V2 → V2.heap[X9]? = some (.cells #[.slice A9 (nf + 1) c9, .slice A1 n1 d1, .bool b1, .int .i64 k1] 29 (0, 0)) → V2.ownsRow V.heap.size 42 5 (.slice A9 (nf + 1) c9) (nf + 1) (news ++ [.int .i64 me, .int .i64 mp, .slice M0 mn mc, .bool mb, .int .i64 mi]) → ∀ (y0 y2 y5 y6 y7 y8 y10 y11 y12 y13 y14 y15 y16 y17 y18 y19 y20 y21 y22 y23 y24 y25 y26 y27 y28 y29 y30 y31 y32 y33 y34 y35 y36 y37 y38 y39 y40 y41 y42 y43 y44 y45 y46 y47 y48 y49 y50 y51 y52 y53 y54 y55 y56 y57 y58 y59 : Value), funsT2.wp Try.prog (bodyPost Try.prog Try.f4 (BoolBelow true W)) { tmps := #[y0, .slice Ai L ci, y2, .int .i64 f, .pointer (some ⟨X4, 0, none⟩), y5, y6, y7, y8, .pointer (some ⟨X9, 0, none⟩), y10, y11, y12, y13, y14, y15, y16, y17, y18, y19, y20, y21, y22, y23, y24, y25, y26, y27, y28, y29, y30, y31, y32, y33, y34, y35, y36, y37, y38, y39, y40, y41, y42, y43, y44, y45, y46, y47, y48, y49, y50, y51, y52, y53, y54, y55, y56, y57, y58, y59], defers := [] } V2) (u0 u2 u5 u7 u8 u9 u10 u11 u12 u13 u14 u15 u16 u17 u18 u19 u20 u21 u22 u23 u24 u25 u26 u27 u28 u29 u30 u31 u32 u33 u34 u35 u36 u37 u38 u39 u40 u41 u42 u43 u44 u45 u46 u47 u48 u49 u50 u51 u52 u53 u54 u55 u56 u57 u58 u59 : Value) :
    ∀ K : Act → World → Prop, (∀ a w, funsT2.wp Try.prog (bodyPost Try.prog Try.f4 (BoolBelow true W)) a w → K a w) → funsR1.wp Try.prog (Exit.then K (bodyPost Try.prog Try.f4 (BoolBelow true W))) { tmps := #[u0, .slice Ai L ci, u2, .int .i64 f, .pointer (some ⟨X4, 0, none⟩), u5, .pointer (some ⟨X6, 0, none⟩), u7, u8, u9, u10, u11, u12, u13, u14, u15, u16, u17, u18, u19, u20, u21, u22, u23, u24, u25, u26, u27, u28, u29, u30, u31, u32, u33, u34, u35, u36, u37, u38, u39, u40, u41, u42, u43, u44, u45, u46, u47, u48, u49, u50, u51, u52, u53, u54, u55, u56, u57, u58, u59], defers := [] } V := by
  intro K hK0
  have HK0 := Lib.hid hK0
  clear hK0
  have HEND := Lib.hid hend
  have HS := Lib.hid hS
  have HS6 := Lib.hid hS6
  have HROW := Lib.hid hrow
  have HONE := Lib.hid hone
  have D0 := Lib.hid (show Below V.heap.size V V.drew from (Below.refl _ _).drew)
  obtain ⟨inf0, hinf, hz0, hz1, hz2⟩ := info_parts infoFun
  clear hS hS6 hrow hone hend
  unfold funsR1 Try.f4
  dsimp only
  refine start_ (n := 12) (S := fun w' => True) (ds := []) #[false, false, false, false, false, false, false, false, false, false, false, false] (by kernel_rfl) rfl rfl trivial (fun hHeld => ?_)
  clear hHeld
  refine inv_at (B := [0, 0, 2, 7, 0, 16, 63, 0, 128, 511, 0, 2047]) [0, 1, 2, 3, 4, 5, 6, 7, 8, 9, 10, 11] (fun a0_ b a w' => ∃ vE v1 A2 c2 Rr X, a = putSel a0_ b [(0, 12, vE), (1, 13, .pointer (some ⟨X4, 0, none⟩)), (2, 14, .slice Af nf cf), (3, 15, v1), (4, 16, .agg #[.int .i64 me, .int .i64 mp, .slice M0 mn mc, .bool mb, .int .i64 mi]), (5, 17, .slice (some ⟨Rr, 0, none⟩) 1 1), (6, 18, .slice A2 (nf + 1) c2), (7, 19, .pointer (some ⟨X4, 1, none⟩)), (8, 20, .agg #[.slice A1 n1 d1, .bool b1, .int .i64 k1]), (9, 21, .agg #[.slice A2 (nf + 1) c2, .slice A1 n1 d1, .bool b1, .int .i64 k1]), (10, 9, .pointer (some ⟨X, 0, none⟩))] ∧ Reg V [(b 0 && !b 3), (b 3 && !b 6), (b 5 && !b 6), (b 6), (b 10 && !b 11), (b 11)] [ownFa V.heap.size 42 5 vE 0 [], ownFa V.heap.size 42 5 v1 nf news, blkFa Rr (.cells [.int .i64 me, .int .i64 mp, .slice M0 mn mc, .bool mb, .int .i64 mi].toArray 42 (0, 0)), ownFa V.heap.size 42 5 (.slice A2 (nf + 1) c2) (nf + 1) (news ++ [.int .i64 me, .int .i64 mp, .slice M0 mn mc, .bool mb, .int .i64 mi]), blkFa X (.cells #[.slice none 0 0, .slice none 0 0, .bool false, .int .i64 0] 29 (0, 0)), blkFa X (.cells #[.slice A2 (nf + 1) c2, .slice A1 n1 d1, .bool b1, .int .i64 k1] 29 (0, 0))] w') rfl (by kernel_rfl) (by kernel_rfl) (by kernel_rfl) ?_ ?_ ?_
  · exact ⟨.bool false, .bool false, none, 0, 0, 0, by simp only [putSel, Bool.false_eq_true, if_false], Reg.start D0.out (fun i => by match i with | 0 => rfl | 1 => rfl | 2 => rfl | 3 => rfl | 4 => rfl | 5 => rfl | i + 6 => simp)⟩
  · skip
    refine steps_cons ?_ ?_
    · rintro b a w' ⟨vE, v1, A2, c2, Rr, X, ha, hI⟩ hb_ hon hoff
      refine ⟨_, rfl, fun K hK => ?_⟩
      replace ha := Lib.hid ha
      have HI := Lib.hid hI
      clear hI
      refine value_ (w1 := w'.alloc (.cells #[] 42)) (v := .slice (some ⟨w'.heap.size, 0, none⟩) 0 0) (by rfl) rfl ?_ ?_
      · go_simp
        try rfl
      exact hK.out _ _ ⟨.slice (some ⟨w'.heap.size, 0, none⟩) 0 0, v1, A2, c2, Rr, X, (by rw [ha.out]; exact putSel_upk 0 hb_ rfl rfl rfl), HI.out.row0 0 rfl (by intro j hj hc; have eb3 : up b 0 3 = b 3 := up_ne (by decide); have eb5 : up b 0 5 = b 5 := up_ne (by decide); have eb6 : up b 0 6 = b 6 := up_ne (by decide); have eb10 : up b 0 10 = b 10 := up_ne (by decide); have eb11 : up b 0 11 = b 11 := up_ne (by decide); have eb0 : up b 0 0 = true := up_self _ _; match j, hj, hc with | 0, hj, hc => exact absurd rfl hj | 1, hj, hc => (change (up b 0 3 && !up b 0 6) = true at hc; rw [eb3, eb6, hoff 3 (by kernel_rfl)] at hc; simp at hc) | 2, hj, hc => (change (up b 0 5 && !up b 0 6) = true at hc; rw [eb5, eb6] at hc; exact ⟨hc, rfl⟩) | 3, hj, hc => (change (up b 0 6) = true at hc; rw [eb6, hoff 6 (by kernel_rfl)] at hc; simp at hc) | 4, hj, hc => (change (up b 0 10 && !up b 0 11) = true at hc; rw [eb10, eb11] at hc; exact ⟨hc, rfl⟩) | 5, hj, hc => (change (up b 0 11) = true at hc; rw [eb11, hoff 11 (by kernel_rfl)] at hc; simp at hc) | j + 6, hj, hc => simp at hc)⟩
    refine steps_cons ?_ ?_
    · rintro b a w' ⟨vE, v1, A2, c2, Rr, X, ha, hI⟩ hb_ hon hoff
      refine ⟨_, rfl, fun K hK => ?_⟩
      have m4 : a.tmps[4]? = some (.pointer (some ⟨X4, 0, none⟩)) := by rw [ha]; exact (putSel_off rfl).trans rfl
      replace ha := Lib.hid ha
      have HI := Lib.hid hI
      clear hI
      refine value_ (w1 := w') (v := .pointer (some ⟨X4, 0, none⟩)) (by rfl) rfl ?_ ?_
      · go_simp
        try rfl
      exact hK.out _ _ ⟨vE, v1, A2, c2, Rr, X, (by rw [ha.out]; exact putSel_upk 1 hb_ rfl rfl rfl), (by have h := HI.out; have eb0 : up b 1 0 = b 0 := up_ne (by decide); have eb3 : up b 1 3 = b 3 := up_ne (by decide); have eb5 : up b 1 5 = b 5 := up_ne (by decide); have eb6 : up b 1 6 = b 6 := up_ne (by decide); have eb10 : up b 1 10 = b 10 := up_ne (by decide); have eb11 : up b 1 11 = b 11 := up_ne (by decide); rw [eb0, eb3, eb5, eb6, eb10, eb11]; exact h)⟩
    refine steps_cons ?_ ?_
    · rintro b a w' ⟨vE, v1, A2, c2, Rr, X, ha, hI⟩ hb_ hon hoff
      refine ⟨_, rfl, fun K hK => ?_⟩
      have q1 : a.tmps[13]? = some (.pointer (some ⟨X4, 0, none⟩)) := by rw [ha]; exact putSel_on (e := (1, 13, .pointer (some ⟨X4, 0, none⟩))) 1 rfl rfl (hon 1 (by kernel_rfl)) rfl
      obtain ⟨z0, z1, z2, z3⟩ := HS.out w' hI.bel
      replace ha := Lib.hid ha
      have HI := Lib.hid hI
      clear hI
      refine value_ (w1 := w') (v := .slice Af nf cf) (by rfl) rfl ?_ ?_
      · go_simp
        try rfl
      exact hK.out _ _ ⟨vE, v1, A2, c2, Rr, X, (by rw [ha.out]; exact putSel_upk 2 hb_ rfl rfl rfl), (by have h := HI.out; have eb0 : up b 2 0 = b 0 := up_ne (by decide); have eb3 : up b 2 3 = b 3 := up_ne (by decide); have eb5 : up b 2 5 = b 5 := up_ne (by decide); have eb6 : up b 2 6 = b 6 := up_ne (by decide); have eb10 : up b 2 10 = b 10 := up_ne (by decide); have eb11 : up b 2 11 = b 11 := up_ne (by decide); rw [eb0, eb3, eb5, eb6, eb10, eb11]; exact h)⟩
    refine steps_cons ?_ ?_
    · rintro b a w' ⟨vE, v1, A2, c2, Rr, X, ha, hI⟩ hb_ hon hoff
      refine ⟨_, rfl, fun K hK => ?_⟩
      have q0 : a.tmps[12]? = some (vE) := by rw [ha]; exact putSel_on (e := (0, 12, vE)) 0 rfl rfl (hon 0 (by kernel_rfl)) rfl
      have q2 : a.tmps[14]? = some (.slice Af nf cf) := by rw [ha]; exact putSel_on (e := (2, 14, .slice Af nf cf)) 2 rfl rfl (hon 2 (by kernel_rfl)) rfl
      replace ha := Lib.hid ha
      have HI := Lib.hid hI
      clear hI
      rw [if_pos (by rfl)]
      refine wp_append_row _ _ _ 22 rfl V.heap.size 42 inf0 _ 5 56 Try.underlying22 hinf hz0 hz1 hz2 rfl (by decide) _ (0) ([]) (by first | (simp only [Act.eval, Array.getD_eq_getD_getElem?, Option.getD_some, q0]; done) | (simp only [Act.eval, Array.getD_eq_getD_getElem?, Option.getD_some, q0]; rfl)) ((HI.out.hold 0 (by show (b 0 && !b 3) = true; rw [hon 0 (by kernel_rfl), hb_]; try rfl)).1) (Af) (nf) (cf) (news) (by first | (simp only [Act.eval, Array.getD_eq_getD_getElem?, Option.getD_some, q2]; done) | (simp only [Act.eval, Array.getD_eq_getD_getElem?, Option.getD_some, q2]; rfl)) hnl (HROW.out _ HI.out.bel) HONE.out (by simp only [maxLen]; omega) (by omega) HI.out.bel.size ?_
      intro v' w2 hown hgr hat
      have hown' := own_size_ (m := nf) (ys := news) (by omega) (by simp) hown
      exact hK.out _ _ ⟨vE, v', A2, c2, Rr, X, (by rw [ha.out]; exact putSel_upk 3 hb_ rfl rfl rfl), HI.out.app 0 1 (by show (b 0 && !b 3) = true; rw [hon 0 (by kernel_rfl), hb_]; try rfl) rfl hgr rfl hown' hat (by intro j hj hc; have eb0 : up b 3 0 = b 0 := up_ne (by decide); have eb5 : up b 3 5 = b 5 := up_ne (by decide); have eb6 : up b 3 6 = b 6 := up_ne (by decide); have eb10 : up b 3 10 = b 10 := up_ne (by decide); have eb11 : up b 3 11 = b 11 := up_ne (by decide); have eb3 : up b 3 3 = true := up_self _ _; match j, hj, hc with | 0, hj, hc => (change (up b 3 0 && !up b 3 3) = true at hc; rw [eb0, eb3] at hc; simp at hc) | 1, hj, hc => exact absurd rfl hj | 2, hj, hc => (change (up b 3 5 && !up b 3 6) = true at hc; rw [eb5, eb6] at hc; exact ⟨hc, rfl, by decide⟩) | 3, hj, hc => (change (up b 3 6) = true at hc; rw [eb6, hoff 6 (by kernel_rfl)] at hc; simp at hc) | 4, hj, hc => (change (up b 3 10 && !up b 3 11) = true at hc; rw [eb10, eb11] at hc; exact ⟨hc, rfl, by decide⟩) | 5, hj, hc => (change (up b 3 11) = true at hc; rw [eb11, hoff 11 (by kernel_rfl)] at hc; simp at hc) | j + 6, hj, hc => simp at hc)⟩
    refine steps_cons ?_ ?_
    · rintro b a w' ⟨vE, v1, A2, c2, Rr, X, ha, hI⟩ hb_ hon hoff
      refine ⟨_, rfl, fun K hK => ?_⟩
      have m6 : a.tmps[6]? = some (.pointer (some ⟨X6, 0, none⟩)) := by rw [ha]; exact (putSel_off rfl).trans rfl
      obtain ⟨z0, z1, z2, z3, z4⟩ := HS6.out w' hI.bel
      replace ha := Lib.hid ha
      have HI := Lib.hid hI
      clear hI
      refine value_ (w1 := w') (v := .agg #[.int .i64 me, .int .i64 mp, .slice M0 mn mc, .bool mb, .int .i64 mi]) (by rfl) rfl ?_ ?_
      · go_simp
        try rfl
      exact hK.out _ _ ⟨vE, v1, A2, c2, Rr, X, (by rw [ha.out]; exact putSel_upk 4 hb_ rfl rfl rfl), (by have h := HI.out; have eb0 : up b 4 0 = b 0 := up_ne (by decide); have eb3 : up b 4 3 = b 3 := up_ne (by decide); have eb5 : up b 4 5 = b 5 := up_ne (by decide); have eb6 : up b 4 6 = b 6 := up_ne (by decide); have eb10 : up b 4 10 = b 10 := up_ne (by decide); have eb11 : up b 4 11 = b 11 := up_ne (by decide); rw [eb0, eb3, eb5, eb6, eb10, eb11]; exact h)⟩
    refine steps_cons ?_ ?_
    · rintro b a w' ⟨vE, v1, A2, c2, Rr, X, ha, hI⟩ hb_ hon hoff
      refine ⟨_, rfl, fun K hK => ?_⟩
      have q4 : a.tmps[16]? = some (.agg #[.int .i64 me, .int .i64 mp, .slice M0 mn mc, .bool mb, .int .i64 mi]) := by rw [ha]; exact putSel_on (e := (4, 16, .agg #[.int .i64 me, .int .i64 mp, .slice M0 mn mc, .bool mb, .int .i64 mi])) 4 rfl rfl (hon 4 (by kernel_rfl)) rfl
      replace ha := Lib.hid ha
      have HI := Lib.hid hI
      clear hI
      refine value_ (w1 := w'.alloc (.cells [.int .i64 me, .int .i64 mp, .slice M0 mn mc, .bool mb, .int .i64 mi].toArray 42)) (v := .slice (some ⟨w'.heap.size, 0, none⟩) 1 1) (by rfl) rfl ?_ ?_
      · go_simp
        try rfl
      exact hK.out _ _ ⟨vE, v1, A2, c2, w'.heap.size, X, (by rw [ha.out]; exact putSel_upk 5 hb_ rfl rfl rfl), HI.out.new 2 rfl (by intro j hj hc; have eb0 : up b 5 0 = b 0 := up_ne (by decide); have eb3 : up b 5 3 = b 3 := up_ne (by decide); have eb6 : up b 5 6 = b 6 := up_ne (by decide); have eb10 : up b 5 10 = b 10 := up_ne (by decide); have eb11 : up b 5 11 = b 11 := up_ne (by decide); have eb5 : up b 5 5 = true := up_self _ _; match j, hj, hc with | 0, hj, hc => (change (up b 5 0 && !up b 5 3) = true at hc; rw [eb0, eb3] at hc; exact ⟨hc, rfl⟩) | 1, hj, hc => (change (up b 5 3 && !up b 5 6) = true at hc; rw [eb3, eb6] at hc; exact ⟨hc, rfl⟩) | 2, hj, hc => exact absurd rfl hj | 3, hj, hc => (change (up b 5 6) = true at hc; rw [eb6, hoff 6 (by kernel_rfl)] at hc; simp at hc) | 4, hj, hc => (change (up b 5 10 && !up b 5 11) = true at hc; rw [eb10, eb11] at hc; exact ⟨hc, rfl⟩) | 5, hj, hc => (change (up b 5 11) = true at hc; rw [eb11, hoff 11 (by kernel_rfl)] at hc; simp at hc) | j + 6, hj, hc => simp at hc)⟩
    refine steps_cons ?_ ?_
    · rintro b a w' ⟨vE, v1, A2, c2, Rr, X, ha, hI⟩ hb_ hon hoff
      refine ⟨_, rfl, fun K hK => ?_⟩
      have q3 : a.tmps[15]? = some (v1) := by rw [ha]; exact putSel_on (e := (3, 15, v1)) 3 rfl rfl (hon 3 (by kernel_rfl)) rfl
      have q5 : a.tmps[17]? = some (.slice (some ⟨Rr, 0, none⟩) 1 1) := by rw [ha]; exact putSel_on (e := (5, 17, .slice (some ⟨Rr, 0, none⟩) 1 1)) 5 rfl rfl (hon 5 (by kernel_rfl)) rfl
      replace ha := Lib.hid ha
      have HI := Lib.hid hI
      clear hI
      rw [if_pos (by rfl)]
      refine wp_append_row _ _ _ 22 rfl V.heap.size 42 inf0 _ 5 56 Try.underlying22 hinf hz0 hz1 hz2 rfl (by decide) _ (nf) (news) (by first | (simp only [Act.eval, Array.getD_eq_getD_getElem?, Option.getD_some, q3]; done) | (simp only [Act.eval, Array.getD_eq_getD_getElem?, Option.getD_some, q3]; rfl)) ((HI.out.hold 1 (by show (b 3 && !b 6) = true; rw [hon 3 (by kernel_rfl), hb_]; try rfl)).1) (some ⟨Rr, 0, none⟩) (1) (1) ([.int .i64 me, .int .i64 mp, .slice M0 mn mc, .bool mb, .int .i64 mi]) (by first | (simp only [Act.eval, Array.getD_eq_getD_getElem?, Option.getD_some, q5]; done) | (simp only [Act.eval, Array.getD_eq_getD_getElem?, Option.getD_some, q5]; rfl)) rfl (row_blk (HI.out.hold 2 (by show (b 5 && !b 6) = true; rw [hon 5 (by kernel_rfl), hb_]; try rfl)).1) (by intro u hu; simp only [List.mem_cons, List.not_mem_nil, or_false] at hu; rcases hu with rfl | rfl | rfl | rfl | rfl <;> rfl) (by simp only [maxLen]; omega) (by omega) HI.out.bel.size ?_
      intro v' w2 hown hgr hat
      have hown' := own_size_ (m := nf + 1) (ys := news ++ [.int .i64 me, .int .i64 mp, .slice M0 mn mc, .bool mb, .int .i64 mi]) rfl rfl hown
      obtain ⟨A_, c_, rfl⟩ := own_slice hown'
      exact hK.out _ _ ⟨vE, v1, A_, c_, Rr, X, (by rw [ha.out]; exact ((putSel_upk 6 hb_ rfl rfl rfl).trans (putSel_alt 9 rfl rfl ((up_ne (by decide)).trans (hoff 9 (by kernel_rfl)))))), HI.out.app 1 3 (by show (b 3 && !b 6) = true; rw [hon 3 (by kernel_rfl), hb_]; try rfl) rfl hgr rfl hown' hat (by intro j hj hc; have eb0 : up b 6 0 = b 0 := up_ne (by decide); have eb3 : up b 6 3 = b 3 := up_ne (by decide); have eb5 : up b 6 5 = b 5 := up_ne (by decide); have eb10 : up b 6 10 = b 10 := up_ne (by decide); have eb11 : up b 6 11 = b 11 := up_ne (by decide); have eb6 : up b 6 6 = true := up_self _ _; match j, hj, hc with | 0, hj, hc => (change (up b 6 0 && !up b 6 3) = true at hc; rw [eb0, eb3] at hc; exact ⟨hc, rfl, by decide⟩) | 1, hj, hc => (change (up b 6 3 && !up b 6 6) = true at hc; rw [eb3, eb6] at hc; simp at hc) | 2, hj, hc => (change (up b 6 5 && !up b 6 6) = true at hc; rw [eb5, eb6] at hc; simp at hc) | 3, hj, hc => exact absurd rfl hj | 4, hj, hc => (change (up b 6 10 && !up b 6 11) = true at hc; rw [eb10, eb11] at hc; exact ⟨hc, rfl, by decide⟩) | 5, hj, hc => (change (up b 6 11) = true at hc; rw [eb11, hoff 11 (by kernel_rfl)] at hc; simp at hc) | j + 6, hj, hc => simp at hc)⟩
    refine steps_cons ?_ ?_
    · rintro b a w' ⟨vE, v1, A2, c2, Rr, X, ha, hI⟩ hb_ hon hoff
      refine ⟨_, rfl, fun K hK => ?_⟩
      have m4 : a.tmps[4]? = some (.pointer (some ⟨X4, 0, none⟩)) := by rw [ha]; exact (putSel_off rfl).trans rfl
      replace ha := Lib.hid ha
      have HI := Lib.hid hI
      clear hI
      refine value_ (w1 := w') (v := .pointer (some ⟨X4, 1, none⟩)) (by rfl) rfl ?_ ?_
      · go_simp
        try rfl
      exact hK.out _ _ ⟨vE, v1, A2, c2, Rr, X, (by rw [ha.out]; exact putSel_upk 7 hb_ rfl rfl rfl), (by have h := HI.out; have eb0 : up b 7 0 = b 0 := up_ne (by decide); have eb3 : up b 7 3 = b 3 := up_ne (by decide); have eb5 : up b 7 5 = b 5 := up_ne (by decide); have eb6 : up b 7 6 = b 6 := up_ne (by decide); have eb10 : up b 7 10 = b 10 := up_ne (by decide); have eb11 : up b 7 11 = b 11 := up_ne (by decide); rw [eb0, eb3, eb5, eb6, eb10, eb11]; exact h)⟩
    refine steps_cons ?_ ?_
    · rintro b a w' ⟨vE, v1, A2, c2, Rr, X, ha, hI⟩ hb_ hon hoff
      refine ⟨_, rfl, fun K hK => ?_⟩
      have q7 : a.tmps[19]? = some (.pointer (some ⟨X4, 1, none⟩)) := by rw [ha]; exact putSel_on (e := (7, 19, .pointer (some ⟨X4, 1, none⟩))) 7 rfl rfl (hon 7 (by kernel_rfl)) rfl
      obtain ⟨z0, z1, z2, z3⟩ := HS.out w' hI.bel
      replace ha := Lib.hid ha
      have HI := Lib.hid hI
      clear hI
      refine value_ (w1 := w') (v := .agg #[.slice A1 n1 d1, .bool b1, .int .i64 k1]) (by rfl) rfl ?_ ?_
      · go_simp
        try rfl
      exact hK.out _ _ ⟨vE, v1, A2, c2, Rr, X, (by rw [ha.out]; exact putSel_upk 8 hb_ rfl rfl rfl), (by have h := HI.out; have eb0 : up b 8 0 = b 0 := up_ne (by decide); have eb3 : up b 8 3 = b 3 := up_ne (by decide); have eb5 : up b 8 5 = b 5 := up_ne (by decide); have eb6 : up b 8 6 = b 6 := up_ne (by decide); have eb10 : up b 8 10 = b 10 := up_ne (by decide); have eb11 : up b 8 11 = b 11 := up_ne (by decide); rw [eb0, eb3, eb5, eb6, eb10, eb11]; exact h)⟩
    refine steps_cons ?_ ?_
    · rintro b a w' ⟨vE, v1, A2, c2, Rr, X, ha, hI⟩ hb_ hon hoff
      refine ⟨_, rfl, fun K hK => ?_⟩
      have q6 : a.tmps[18]? = some (.slice A2 (nf + 1) c2) := by rw [ha]; exact putSel_on (e := (6, 18, .slice A2 (nf + 1) c2)) 6 rfl rfl (hon 6 (by kernel_rfl)) rfl
      have q8 : a.tmps[20]? = some (.agg #[.slice A1 n1 d1, .bool b1, .int .i64 k1]) := by rw [ha]; exact putSel_on (e := (8, 20, .agg #[.slice A1 n1 d1, .bool b1, .int .i64 k1])) 8 rfl rfl (hon 8 (by kernel_rfl)) rfl
      replace ha := Lib.hid ha
      have HI := Lib.hid hI
      clear hI
      refine value_ (w1 := w') (v := .agg #[.slice A2 (nf + 1) c2, .slice A1 n1 d1, .bool b1, .int .i64 k1]) (by rfl) rfl ?_ ?_
      · go_simp
        try rfl
      exact hK.out _ _ ⟨vE, v1, A2, c2, Rr, X, (by rw [ha.out]; exact putSel_upk 9 hb_ rfl rfl rfl), (by have h := HI.out; have eb0 : up b 9 0 = b 0 := up_ne (by decide); have eb3 : up b 9 3 = b 3 := up_ne (by decide); have eb5 : up b 9 5 = b 5 := up_ne (by decide); have eb6 : up b 9 6 = b 6 := up_ne (by decide); have eb10 : up b 9 10 = b 10 := up_ne (by decide); have eb11 : up b 9 11 = b 11 := up_ne (by decide); rw [eb0, eb3, eb5, eb6, eb10, eb11]; exact h)⟩
    refine steps_cons ?_ ?_
    · rintro b a w' ⟨vE, v1, A2, c2, Rr, X, ha, hI⟩ hb_ hon hoff
      refine ⟨_, rfl, fun K hK => ?_⟩
      replace ha := Lib.hid ha
      have HI := Lib.hid hI
      clear hI
      refine value_ (w1 := w'.alloc (.cells #[.slice none 0 0, .slice none 0 0, .bool false, .int .i64 0] 29)) (v := .pointer (some ⟨w'.heap.size, 0, none⟩)) (by rfl) rfl ?_ ?_
      · go_simp
        try rfl
      exact hK.out _ _ ⟨vE, v1, A2, c2, Rr, w'.heap.size, (by rw [ha.out]; exact putSel_upk 10 hb_ rfl rfl rfl), HI.out.new 4 rfl (by intro j hj hc; have eb0 : up b 10 0 = b 0 := up_ne (by decide); have eb3 : up b 10 3 = b 3 := up_ne (by decide); have eb5 : up b 10 5 = b 5 := up_ne (by decide); have eb6 : up b 10 6 = b 6 := up_ne (by decide); have eb11 : up b 10 11 = b 11 := up_ne (by decide); have eb10 : up b 10 10 = true := up_self _ _; match j, hj, hc with | 0, hj, hc => (change (up b 10 0 && !up b 10 3) = true at hc; rw [eb0, eb3] at hc; exact ⟨hc, rfl⟩) | 1, hj, hc => (change (up b 10 3 && !up b 10 6) = true at hc; rw [eb3, eb6] at hc; exact ⟨hc, rfl⟩) | 2, hj, hc => (change (up b 10 5 && !up b 10 6) = true at hc; rw [eb5, eb6] at hc; exact ⟨hc, rfl⟩) | 3, hj, hc => (change (up b 10 6) = true at hc; rw [eb6] at hc; exact ⟨hc, rfl⟩) | 4, hj, hc => exact absurd rfl hj | 5, hj, hc => (change (up b 10 11) = true at hc; rw [eb11, hoff 11 (by kernel_rfl)] at hc; simp at hc) | j + 6, hj, hc => simp at hc)⟩
    refine steps_cons ?_ ?_
    · rintro b a w' ⟨vE, v1, A2, c2, Rr, X, ha, hI⟩ hb_ hon hoff
      refine ⟨_, rfl, fun K hK => ?_⟩
      have q9 : a.tmps[21]? = some (.agg #[.slice A2 (nf + 1) c2, .slice A1 n1 d1, .bool b1, .int .i64 k1]) := by rw [ha]; exact putSel_on (e := (9, 21, .agg #[.slice A2 (nf + 1) c2, .slice A1 n1 d1, .bool b1, .int .i64 k1])) 9 rfl rfl (hon 9 (by kernel_rfl)) rfl
      have q10 : a.tmps[9]? = some (.pointer (some ⟨X, 0, none⟩)) := by rw [ha]; exact putSel_on (e := (10, 9, .pointer (some ⟨X, 0, none⟩))) 10 rfl rfl (hon 10 (by kernel_rfl)) rfl
      obtain ⟨y0, y1, y2, y3, y4⟩ := cells4 ((hI.hold 4 (by show (b 10 && !b 11) = true; rw [hon 10 (by kernel_rfl), hb_]; try rfl)).1)
      replace ha := Lib.hid ha
      have HI := Lib.hid hI
      clear hI
      refine skip_ (w1 := set4 w' X (.slice A2 (nf + 1) c2) (.slice A1 n1 d1) (.bool b1) (.int .i64 k1)) (by rfl) rfl ?_ ?_
      · unfold set4
        go_simp
        try rfl
      exact hK.out _ _ ⟨vE, v1, A2, c2, Rr, X, (by rw [ha.out]; exact (putSel_skipY rfl).symm), HI.out.turn 4 5 (by show (b 10 && !b 11) = true; rw [hon 10 (by kernel_rfl), hb_]; try rfl) rfl (chg_set4 _ _ _ _ _ _) rfl (set4_self (HI.out.hold 4 (by show (b 10 && !b 11) = true; rw [hon 10 (by kernel_rfl), hb_]; try rfl)).1 _ _ _ _) (by intro j hj hc; have eb0 : up b 11 0 = b 0 := up_ne (by decide); have eb3 : up b 11 3 = b 3 := up_ne (by decide); have eb5 : up b 11 5 = b 5 := up_ne (by decide); have eb6 : up b 11 6 = b 6 := up_ne (by decide); have eb10 : up b 11 10 = b 10 := up_ne (by decide); have eb11 : up b 11 11 = true := up_self _ _; match j, hj, hc with | 0, hj, hc => (change (up b 11 0 && !up b 11 3) = true at hc; rw [eb0, eb3] at hc; exact ⟨hc, rfl, by decide⟩) | 1, hj, hc => (change (up b 11 3 && !up b 11 6) = true at hc; rw [eb3, eb6] at hc; exact ⟨hc, rfl, by decide⟩) | 2, hj, hc => (change (up b 11 5 && !up b 11 6) = true at hc; rw [eb5, eb6] at hc; exact ⟨hc, rfl, by decide⟩) | 3, hj, hc => (change (up b 11 6) = true at hc; rw [eb6] at hc; exact ⟨hc, rfl, by decide⟩) | 4, hj, hc => (change (up b 11 10 && !up b 11 11) = true at hc; rw [eb10, eb11] at hc; simp at hc) | 5, hj, hc => exact absurd rfl hj | j + 6, hj, hc => simp at hc)⟩
    exact steps_nil
  rintro b a w' hall ⟨vE, v1, A2, c2, Rr, X, ha, hI⟩
  have hl : ∀ j, j ≤ 11 → b j = true := fun j hj => hall j (by
    have : j = 0 ∨ j = 1 ∨ j = 2 ∨ j = 3 ∨ j = 4 ∨ j = 5 ∨ j = 6 ∨ j = 7 ∨ j = 8 ∨ j = 9 ∨ j = 10 ∨ j = 11 := by omega
    rcases this with rfl | rfl | rfl | rfl | rfl | rfl | rfl | rfl | rfl | rfl | rfl | rfl <;> rfl)
  have b0 := hl 0 (by decide)
  have b1 := hl 1 (by decide)
  have b2 := hl 2 (by decide)
  have b3 := hl 3 (by decide)
  have b4 := hl 4 (by decide)
  have b5 := hl 5 (by decide)
  have b6 := hl 6 (by decide)
  have b7 := hl 7 (by decide)
  have b8 := hl 8 (by decide)
  have b9 := hl 9 (by decide)
  have b10 := hl 10 (by decide)
  have b11 := hl 11 (by decide)
  have f3 := (hI.hold 3 (by show (b 6) = true; rw [b6]; try rfl)).1
  have f5 := (hI.hold 5 (by show (b 11) = true; rw [b11]; try rfl)).1
  have hbel := hI.bel
  clear hI
  subst ha
  simp only [putSel, b0, b1, b2, b3, b4, b5, b6, b7, b8, b9, b10, if_true, Act.put, List.setIfInBounds_toArray, List.set_cons_zero, List.set_cons_succ, Exit.then]
  exact HK0.out _ _ (HEND.out _ X A2 c2 hbel f5 f3 _ _ _ _ _ _ _ _ _ _ _ _ _ _ _ _ _ _ _ _ _ _ _ _ _ _ _ _ _ _ _ _ _ _ _ _ _ _ _ _ _ _ _ _ _ _ _ _ _ _ _ _ _ _ _ _)
end Go.Proofs.Ytnobggabjpcbfaa

/-
  camletref30: counts.
-/
set_option linter.unusedVariables false
set_option linter.unusedSimpArgs false
namespace Go.Proofs.Ytnobggabjpcbfaa
open Go.RowKit

section
variable (x n : Int) (Aa Ak Al : Option Addr) (na ca ck nb cb : Nat) (ks : List Int) (w : World)
set_option maxRecDepth 100000 in
set_option maxHeartbeats 4000000 in
theorem rcount_atom : Calls Try.prog 57 #[.agg #[.int .i64 x, .int .i64 1, .int .i64 n, .slice Aa na ca, .slice Ak ks.length ck, .slice Al nb cb]] w fun e w' => e = .returned (.bool (countB x 1 n na ks nb)) ∧ Below w.heap.size w w' := by
  obtain ⟨W0, hW0⟩ : ∃ W0, w.alloc (.cells #[.int .i64 x, .int .i64 1, .int .i64 n, .slice Aa na ca, .slice Ak ks.length ck, .slice Al nb cb] 54) = W0 := ⟨_, rfl⟩
  have hb0 : Below w.heap.size w W0 := by rw [← hW0]; exact (Below.refl _ _).alloc (Nat.le_refl _) _
  have hs0 : w.heap.size < W0.heap.size := by rw [← hW0]; simp
  obtain ⟨W1, hW1⟩ : ∃ W1, W0.alloc (.cells #[.int .i64 1, .int .i64 n, .slice Aa na ca, .slice Ak ks.length ck, .slice Al nb cb] 52) = W1 := ⟨_, rfl⟩
  have hb1 : Below W0.heap.size W0 W1 := by rw [← hW1]; exact (Below.refl _ _).alloc (Nat.le_refl _) _
  have d0 : W0.cell? ⟨w.heap.size, 0, none⟩ = some (.int .i64 x) := by rw [← hW0, World.cell?_alloc_at _ _ _ _ rfl]; rfl
  have d1 : W0.cell? ⟨w.heap.size, 1, none⟩ = some (.int .i64 1) := by rw [← hW0, World.cell?_alloc_at _ _ _ _ rfl]; rfl
  have d2 : W0.cell? ⟨w.heap.size, 2, none⟩ = some (.int .i64 n) := by rw [← hW0, World.cell?_alloc_at _ _ _ _ rfl]; rfl
  have d3 : W0.cell? ⟨w.heap.size, 3, none⟩ = some (.slice Aa na ca) := by rw [← hW0, World.cell?_alloc_at _ _ _ _ rfl]; rfl
  have d4 : W0.cell? ⟨w.heap.size, 4, none⟩ = some (.slice Ak ks.length ck) := by rw [← hW0, World.cell?_alloc_at _ _ _ _ rfl]; rfl
  have d5 : W0.cell? ⟨w.heap.size, 5, none⟩ = some (.slice Al nb cb) := by rw [← hW0, World.cell?_alloc_at _ _ _ _ rfl]; rfl
  have hR : RhsAt W0 W1 W0.heap.size 1 n Aa Ak Al na ca ks.length ck nb cb := by rw [← hW1]; exact RhsAt.new _ _ _ _ _ _ _ _ _ _ _ _
  obtain ⟨c0, c1, c2, c3, c4, cl⟩ := hR
  have g0 : W1.cell? ⟨w.heap.size, 0, none⟩ = some (.int .i64 x) := (hb1.cell (p := ⟨w.heap.size, 0, none⟩) hs0).trans d0
  have HB := Lib.hid (hb0.trans (hb1.mono hb0.size))
  clear hb0 hb1
  go_enter Try.func57, Try.ntmps57
  go_wp2_with (first | (go_at_call 38; refine (is_any _ _ _ _).mono ?_; rintro en w' ⟨rfl, rfl⟩) | (go_at_call 68; refine (rargs_any _ _).mono ?_; rintro en w' ⟨rfl, rfl⟩))
  go_ret
  exact ⟨ret_bool (by have := nat_eq_bool na 1; simpa [countB] using this), HB.out⟩
set_option maxRecDepth 100000 in
set_option maxHeartbeats 4000000 in
theorem rcount_field : Calls Try.prog 57 #[.agg #[.int .i64 x, .int .i64 4, .int .i64 n, .slice Aa na ca, .slice Ak ks.length ck, .slice Al nb cb]] w fun e w' => e = .returned (.bool (countB x 4 n na ks nb)) ∧ Below w.heap.size w w' := by
  obtain ⟨W0, hW0⟩ : ∃ W0, w.alloc (.cells #[.int .i64 x, .int .i64 4, .int .i64 n, .slice Aa na ca, .slice Ak ks.length ck, .slice Al nb cb] 54) = W0 := ⟨_, rfl⟩
  have hb0 : Below w.heap.size w W0 := by rw [← hW0]; exact (Below.refl _ _).alloc (Nat.le_refl _) _
  have hs0 : w.heap.size < W0.heap.size := by rw [← hW0]; simp
  obtain ⟨W1, hW1⟩ : ∃ W1, W0.alloc (.cells #[.int .i64 4, .int .i64 n, .slice Aa na ca, .slice Ak ks.length ck, .slice Al nb cb] 52) = W1 := ⟨_, rfl⟩
  have hb1 : Below W0.heap.size W0 W1 := by rw [← hW1]; exact (Below.refl _ _).alloc (Nat.le_refl _) _
  have d0 : W0.cell? ⟨w.heap.size, 0, none⟩ = some (.int .i64 x) := by rw [← hW0, World.cell?_alloc_at _ _ _ _ rfl]; rfl
  have d1 : W0.cell? ⟨w.heap.size, 1, none⟩ = some (.int .i64 4) := by rw [← hW0, World.cell?_alloc_at _ _ _ _ rfl]; rfl
  have d2 : W0.cell? ⟨w.heap.size, 2, none⟩ = some (.int .i64 n) := by rw [← hW0, World.cell?_alloc_at _ _ _ _ rfl]; rfl
  have d3 : W0.cell? ⟨w.heap.size, 3, none⟩ = some (.slice Aa na ca) := by rw [← hW0, World.cell?_alloc_at _ _ _ _ rfl]; rfl
  have d4 : W0.cell? ⟨w.heap.size, 4, none⟩ = some (.slice Ak ks.length ck) := by rw [← hW0, World.cell?_alloc_at _ _ _ _ rfl]; rfl
  have d5 : W0.cell? ⟨w.heap.size, 5, none⟩ = some (.slice Al nb cb) := by rw [← hW0, World.cell?_alloc_at _ _ _ _ rfl]; rfl
  have hR : RhsAt W0 W1 W0.heap.size 4 n Aa Ak Al na ca ks.length ck nb cb := by rw [← hW1]; exact RhsAt.new _ _ _ _ _ _ _ _ _ _ _ _
  obtain ⟨c0, c1, c2, c3, c4, cl⟩ := hR
  have g0 : W1.cell? ⟨w.heap.size, 0, none⟩ = some (.int .i64 x) := (hb1.cell (p := ⟨w.heap.size, 0, none⟩) hs0).trans d0
  have HB := Lib.hid (hb0.trans (hb1.mono hb0.size))
  clear hb0 hb1
  go_enter Try.func57, Try.ntmps57
  go_wp2_with (first | (go_at_call 38; refine (is_any _ _ _ _).mono ?_; rintro en w' ⟨rfl, rfl⟩) | (go_at_call 68; refine (rargs_any _ _).mono ?_; rintro en w' ⟨rfl, rfl⟩))
  go_ret
  exact ⟨ret_bool (by have := nat_eq_bool na 1; simpa [countB] using this), HB.out⟩
set_option maxRecDepth 100000 in
set_option maxHeartbeats 4000000 in
theorem rcount_app : Calls Try.prog 57 #[.agg #[.int .i64 x, .int .i64 6, .int .i64 n, .slice Aa na ca, .slice Ak ks.length ck, .slice Al nb cb]] w fun e w' => e = .returned (.bool (countB x 6 n na ks nb)) ∧ Below w.heap.size w w' := by
  obtain ⟨W0, hW0⟩ : ∃ W0, w.alloc (.cells #[.int .i64 x, .int .i64 6, .int .i64 n, .slice Aa na ca, .slice Ak ks.length ck, .slice Al nb cb] 54) = W0 := ⟨_, rfl⟩
  have hb0 : Below w.heap.size w W0 := by rw [← hW0]; exact (Below.refl _ _).alloc (Nat.le_refl _) _
  have hs0 : w.heap.size < W0.heap.size := by rw [← hW0]; simp
  obtain ⟨W1, hW1⟩ : ∃ W1, W0.alloc (.cells #[.int .i64 6, .int .i64 n, .slice Aa na ca, .slice Ak ks.length ck, .slice Al nb cb] 52) = W1 := ⟨_, rfl⟩
  have hb1 : Below W0.heap.size W0 W1 := by rw [← hW1]; exact (Below.refl _ _).alloc (Nat.le_refl _) _
  have d0 : W0.cell? ⟨w.heap.size, 0, none⟩ = some (.int .i64 x) := by rw [← hW0, World.cell?_alloc_at _ _ _ _ rfl]; rfl
  have d1 : W0.cell? ⟨w.heap.size, 1, none⟩ = some (.int .i64 6) := by rw [← hW0, World.cell?_alloc_at _ _ _ _ rfl]; rfl
  have d2 : W0.cell? ⟨w.heap.size, 2, none⟩ = some (.int .i64 n) := by rw [← hW0, World.cell?_alloc_at _ _ _ _ rfl]; rfl
  have d3 : W0.cell? ⟨w.heap.size, 3, none⟩ = some (.slice Aa na ca) := by rw [← hW0, World.cell?_alloc_at _ _ _ _ rfl]; rfl
  have d4 : W0.cell? ⟨w.heap.size, 4, none⟩ = some (.slice Ak ks.length ck) := by rw [← hW0, World.cell?_alloc_at _ _ _ _ rfl]; rfl
  have d5 : W0.cell? ⟨w.heap.size, 5, none⟩ = some (.slice Al nb cb) := by rw [← hW0, World.cell?_alloc_at _ _ _ _ rfl]; rfl
  have hR : RhsAt W0 W1 W0.heap.size 6 n Aa Ak Al na ca ks.length ck nb cb := by rw [← hW1]; exact RhsAt.new _ _ _ _ _ _ _ _ _ _ _ _
  obtain ⟨c0, c1, c2, c3, c4, cl⟩ := hR
  have g0 : W1.cell? ⟨w.heap.size, 0, none⟩ = some (.int .i64 x) := (hb1.cell (p := ⟨w.heap.size, 0, none⟩) hs0).trans d0
  have HB := Lib.hid (hb0.trans (hb1.mono hb0.size))
  clear hb0 hb1
  go_enter Try.func57, Try.ntmps57
  go_wp2_with (first | (go_at_call 38; refine (is_any _ _ _ _).mono ?_; rintro en w' ⟨rfl, rfl⟩) | (go_at_call 68; refine (rargs_any _ _).mono ?_; rintro en w' ⟨rfl, rfl⟩))
  go_ret
  exact ⟨ret_bool (by have := nat_eq_bool na 2; simpa [countB] using this), HB.out⟩
set_option maxRecDepth 100000 in
set_option maxHeartbeats 4000000 in
theorem rcount_block : Calls Try.prog 57 #[.agg #[.int .i64 x, .int .i64 3, .int .i64 n, .slice Aa na ca, .slice Ak ks.length ck, .slice Al nb cb]] w fun e w' => e = .returned (.bool (countB x 3 n na ks nb)) ∧ Below w.heap.size w w' := by
  obtain ⟨W0, hW0⟩ : ∃ W0, w.alloc (.cells #[.int .i64 x, .int .i64 3, .int .i64 n, .slice Aa na ca, .slice Ak ks.length ck, .slice Al nb cb] 54) = W0 := ⟨_, rfl⟩
  have hb0 : Below w.heap.size w W0 := by rw [← hW0]; exact (Below.refl _ _).alloc (Nat.le_refl _) _
  have hs0 : w.heap.size < W0.heap.size := by rw [← hW0]; simp
  obtain ⟨W1, hW1⟩ : ∃ W1, W0.alloc (.cells #[.int .i64 3, .int .i64 n, .slice Aa na ca, .slice Ak ks.length ck, .slice Al nb cb] 52) = W1 := ⟨_, rfl⟩
  have hb1 : Below W0.heap.size W0 W1 := by rw [← hW1]; exact (Below.refl _ _).alloc (Nat.le_refl _) _
  have d0 : W0.cell? ⟨w.heap.size, 0, none⟩ = some (.int .i64 x) := by rw [← hW0, World.cell?_alloc_at _ _ _ _ rfl]; rfl
  have d1 : W0.cell? ⟨w.heap.size, 1, none⟩ = some (.int .i64 3) := by rw [← hW0, World.cell?_alloc_at _ _ _ _ rfl]; rfl
  have d2 : W0.cell? ⟨w.heap.size, 2, none⟩ = some (.int .i64 n) := by rw [← hW0, World.cell?_alloc_at _ _ _ _ rfl]; rfl
  have d3 : W0.cell? ⟨w.heap.size, 3, none⟩ = some (.slice Aa na ca) := by rw [← hW0, World.cell?_alloc_at _ _ _ _ rfl]; rfl
  have d4 : W0.cell? ⟨w.heap.size, 4, none⟩ = some (.slice Ak ks.length ck) := by rw [← hW0, World.cell?_alloc_at _ _ _ _ rfl]; rfl
  have d5 : W0.cell? ⟨w.heap.size, 5, none⟩ = some (.slice Al nb cb) := by rw [← hW0, World.cell?_alloc_at _ _ _ _ rfl]; rfl
  have hR : RhsAt W0 W1 W0.heap.size 3 n Aa Ak Al na ca ks.length ck nb cb := by rw [← hW1]; exact RhsAt.new _ _ _ _ _ _ _ _ _ _ _ _
  obtain ⟨c0, c1, c2, c3, c4, cl⟩ := hR
  have g0 : W1.cell? ⟨w.heap.size, 0, none⟩ = some (.int .i64 x) := (hb1.cell (p := ⟨w.heap.size, 0, none⟩) hs0).trans d0
  have HB := Lib.hid (hb0.trans (hb1.mono hb0.size))
  clear hb0 hb1
  go_enter Try.func57, Try.ntmps57
  go_wp2_with (first | (go_at_call 38; refine (is_any _ _ _ _).mono ?_; rintro en w' ⟨rfl, rfl⟩) | (go_at_call 68; refine (rargs_any _ _).mono ?_; rintro en w' ⟨rfl, rfl⟩))
  go_ret
  exact ⟨ret_bool (by simp [countB]), HB.out⟩
set_option maxRecDepth 100000 in
set_option maxHeartbeats 4000000 in
theorem rcount_close : Calls Try.prog 57 #[.agg #[.int .i64 x, .int .i64 9, .int .i64 n, .slice Aa na ca, .slice Ak ks.length ck, .slice Al nb cb]] w fun e w' => e = .returned (.bool (countB x 9 n na ks nb)) ∧ Below w.heap.size w w' := by
  obtain ⟨W0, hW0⟩ : ∃ W0, w.alloc (.cells #[.int .i64 x, .int .i64 9, .int .i64 n, .slice Aa na ca, .slice Ak ks.length ck, .slice Al nb cb] 54) = W0 := ⟨_, rfl⟩
  have hb0 : Below w.heap.size w W0 := by rw [← hW0]; exact (Below.refl _ _).alloc (Nat.le_refl _) _
  have hs0 : w.heap.size < W0.heap.size := by rw [← hW0]; simp
  obtain ⟨W1, hW1⟩ : ∃ W1, W0.alloc (.cells #[.int .i64 9, .int .i64 n, .slice Aa na ca, .slice Ak ks.length ck, .slice Al nb cb] 52) = W1 := ⟨_, rfl⟩
  have hb1 : Below W0.heap.size W0 W1 := by rw [← hW1]; exact (Below.refl _ _).alloc (Nat.le_refl _) _
  have d0 : W0.cell? ⟨w.heap.size, 0, none⟩ = some (.int .i64 x) := by rw [← hW0, World.cell?_alloc_at _ _ _ _ rfl]; rfl
  have d1 : W0.cell? ⟨w.heap.size, 1, none⟩ = some (.int .i64 9) := by rw [← hW0, World.cell?_alloc_at _ _ _ _ rfl]; rfl
  have d2 : W0.cell? ⟨w.heap.size, 2, none⟩ = some (.int .i64 n) := by rw [← hW0, World.cell?_alloc_at _ _ _ _ rfl]; rfl
  have d3 : W0.cell? ⟨w.heap.size, 3, none⟩ = some (.slice Aa na ca) := by rw [← hW0, World.cell?_alloc_at _ _ _ _ rfl]; rfl
  have d4 : W0.cell? ⟨w.heap.size, 4, none⟩ = some (.slice Ak ks.length ck) := by rw [← hW0, World.cell?_alloc_at _ _ _ _ rfl]; rfl
  have d5 : W0.cell? ⟨w.heap.size, 5, none⟩ = some (.slice Al nb cb) := by rw [← hW0, World.cell?_alloc_at _ _ _ _ rfl]; rfl
  have hR : RhsAt W0 W1 W0.heap.size 9 n Aa Ak Al na ca ks.length ck nb cb := by rw [← hW1]; exact RhsAt.new _ _ _ _ _ _ _ _ _ _ _ _
  obtain ⟨c0, c1, c2, c3, c4, cl⟩ := hR
  have g0 : W1.cell? ⟨w.heap.size, 0, none⟩ = some (.int .i64 x) := (hb1.cell (p := ⟨w.heap.size, 0, none⟩) hs0).trans d0
  have HB := Lib.hid (hb0.trans (hb1.mono hb0.size))
  clear hb0 hb1
  go_enter Try.func57, Try.ntmps57
  go_wp2_with (first | (go_at_call 38; refine (is_any _ _ _ _).mono ?_; rintro en w' ⟨rfl, rfl⟩) | (go_at_call 68; refine (rargs_any _ _).mono ?_; rintro en w' ⟨rfl, rfl⟩))
  go_ret
  exact ⟨ret_bool (by simp [countB]), HB.out⟩
set_option maxRecDepth 100000 in
set_option maxHeartbeats 4000000 in
theorem rcount_prim : Calls Try.prog 57 #[.agg #[.int .i64 x, .int .i64 2, .int .i64 n, .slice Aa na ca, .slice Ak ks.length ck, .slice Al nb cb]] w fun e w' => e = .returned (.bool (countB x 2 n na ks nb)) ∧ Below w.heap.size w w' := by
  obtain ⟨W0, hW0⟩ : ∃ W0, w.alloc (.cells #[.int .i64 x, .int .i64 2, .int .i64 n, .slice Aa na ca, .slice Ak ks.length ck, .slice Al nb cb] 54) = W0 := ⟨_, rfl⟩
  have hb0 : Below w.heap.size w W0 := by rw [← hW0]; exact (Below.refl _ _).alloc (Nat.le_refl _) _
  have hs0 : w.heap.size < W0.heap.size := by rw [← hW0]; simp
  obtain ⟨W1, hW1⟩ : ∃ W1, W0.alloc (.cells #[.int .i64 2, .int .i64 n, .slice Aa na ca, .slice Ak ks.length ck, .slice Al nb cb] 52) = W1 := ⟨_, rfl⟩
  have hb1 : Below W0.heap.size W0 W1 := by rw [← hW1]; exact (Below.refl _ _).alloc (Nat.le_refl _) _
  have d0 : W0.cell? ⟨w.heap.size, 0, none⟩ = some (.int .i64 x) := by rw [← hW0, World.cell?_alloc_at _ _ _ _ rfl]; rfl
  have d1 : W0.cell? ⟨w.heap.size, 1, none⟩ = some (.int .i64 2) := by rw [← hW0, World.cell?_alloc_at _ _ _ _ rfl]; rfl
  have d2 : W0.cell? ⟨w.heap.size, 2, none⟩ = some (.int .i64 n) := by rw [← hW0, World.cell?_alloc_at _ _ _ _ rfl]; rfl
  have d3 : W0.cell? ⟨w.heap.size, 3, none⟩ = some (.slice Aa na ca) := by rw [← hW0, World.cell?_alloc_at _ _ _ _ rfl]; rfl
  have d4 : W0.cell? ⟨w.heap.size, 4, none⟩ = some (.slice Ak ks.length ck) := by rw [← hW0, World.cell?_alloc_at _ _ _ _ rfl]; rfl
  have d5 : W0.cell? ⟨w.heap.size, 5, none⟩ = some (.slice Al nb cb) := by rw [← hW0, World.cell?_alloc_at _ _ _ _ rfl]; rfl
  have hR : RhsAt W0 W1 W0.heap.size 2 n Aa Ak Al na ca ks.length ck nb cb := by rw [← hW1]; exact RhsAt.new _ _ _ _ _ _ _ _ _ _ _ _
  obtain ⟨c0, c1, c2, c3, c4, cl⟩ := hR
  have g0 : W1.cell? ⟨w.heap.size, 0, none⟩ = some (.int .i64 x) := (hb1.cell (p := ⟨w.heap.size, 0, none⟩) hs0).trans d0
  have HB := Lib.hid (hb0.trans (hb1.mono hb0.size))
  clear hb0 hb1
  obtain ⟨q, hq⟩ : ∃ q : Int, (if twoF n then (2 : Int) else 1) = q := ⟨_, rfl⟩
  have HT := Lib.hid (show countB x 2 n na ks nb = ((na : Int) == q) from by
    have h1 := nat_eq_bool na 1
    have h2 := nat_eq_bool na 2
    rw [← hq]
    cases ht : twoF n
    · simpa [countB, ht] using h1.symm
    · simpa [countB, ht] using h2.symm)
  have HA := Lib.hid (show ∀ w, Calls Try.prog 68 #[.int .i64 n] w fun e w' => e = .returned (.int .i64 q) ∧ w = w' from fun w => hq ▸ rargs_any n w)
  clear hq
  go_enter Try.func57, Try.ntmps57
  go_wp2_with (go_at_call 68; refine (HA.out _).mono ?_; rintro en w' ⟨rfl, rfl⟩)
  go_ret
  exact ⟨ret_bool HT.out.symm, HB.out⟩
set_option maxRecDepth 100000 in
set_option maxHeartbeats 4000000 in
theorem rcount_switch (hl : ks.length * 8 ≤ 140737488351232) : Calls Try.prog 57 #[.agg #[.int .i64 x, .int .i64 8, .int .i64 n, .slice Aa na ca, .slice Ak ks.length ck, .slice Al nb cb]] w fun e w' => e = .returned (.bool (countB x 8 n na ks nb)) ∧ Below w.heap.size w w' := by
  obtain ⟨W0, hW0⟩ : ∃ W0, w.alloc (.cells #[.int .i64 x, .int .i64 8, .int .i64 n, .slice Aa na ca, .slice Ak ks.length ck, .slice Al nb cb] 54) = W0 := ⟨_, rfl⟩
  have hb0 : Below w.heap.size w W0 := by rw [← hW0]; exact (Below.refl _ _).alloc (Nat.le_refl _) _
  have hs0 : w.heap.size < W0.heap.size := by rw [← hW0]; simp
  obtain ⟨W1, hW1⟩ : ∃ W1, W0.alloc (.cells #[.int .i64 8, .int .i64 n, .slice Aa na ca, .slice Ak ks.length ck, .slice Al nb cb] 52) = W1 := ⟨_, rfl⟩
  have hb1 : Below W0.heap.size W0 W1 := by rw [← hW1]; exact (Below.refl _ _).alloc (Nat.le_refl _) _
  have d0 : W0.cell? ⟨w.heap.size, 0, none⟩ = some (.int .i64 x) := by rw [← hW0, World.cell?_alloc_at _ _ _ _ rfl]; rfl
  have d1 : W0.cell? ⟨w.heap.size, 1, none⟩ = some (.int .i64 8) := by rw [← hW0, World.cell?_alloc_at _ _ _ _ rfl]; rfl
  have d2 : W0.cell? ⟨w.heap.size, 2, none⟩ = some (.int .i64 n) := by rw [← hW0, World.cell?_alloc_at _ _ _ _ rfl]; rfl
  have d3 : W0.cell? ⟨w.heap.size, 3, none⟩ = some (.slice Aa na ca) := by rw [← hW0, World.cell?_alloc_at _ _ _ _ rfl]; rfl
  have d4 : W0.cell? ⟨w.heap.size, 4, none⟩ = some (.slice Ak ks.length ck) := by rw [← hW0, World.cell?_alloc_at _ _ _ _ rfl]; rfl
  have d5 : W0.cell? ⟨w.heap.size, 5, none⟩ = some (.slice Al nb cb) := by rw [← hW0, World.cell?_alloc_at _ _ _ _ rfl]; rfl
  have hR : RhsAt W0 W1 W0.heap.size 8 n Aa Ak Al na ca ks.length ck nb cb := by rw [← hW1]; exact RhsAt.new _ _ _ _ _ _ _ _ _ _ _ _
  obtain ⟨c0, c1, c2, c3, c4, cl⟩ := hR
  have g0 : W1.cell? ⟨w.heap.size, 0, none⟩ = some (.int .i64 x) := (hb1.cell (p := ⟨w.heap.size, 0, none⟩) hs0).trans d0
  have HB := Lib.hid (hb0.trans (hb1.mono hb0.size))
  clear hb0 hb1
  have hw : IntKind.i64.wrap ((ks.length : Int) + 1) = (ks.length : Int) + 1 := by rw [IntKind.wrap_i64]; omega
  cases h1 : ((na : Int) == 1)
  · have HT := Lib.hid (show countB x 8 n na ks nb = false from by rw [show ((na : Int) == 1) = (na == 1) from nat_eq_bool na 1] at h1; simp [countB, h1])
    go_enter Try.func57, Try.ntmps57
    go_wp2_with (first | (go_at_call 38; refine (is_any _ _ _ _).mono ?_; rintro en w' ⟨rfl, rfl⟩) | (go_at_call 68; refine (rargs_any _ _).mono ?_; rintro en w' ⟨rfl, rfl⟩))
    go_ret
    exact ⟨ret_bool HT.out.symm, HB.out⟩
  · have HT := Lib.hid (show countB x 8 n na ks nb = ((nb : Int) == (ks.length : Int) + 1) from by rw [show ((na : Int) == 1) = (na == 1) from nat_eq_bool na 1] at h1; have := nat_eq_bool nb (ks.length + 1); simp [countB, h1]; simpa using this.symm)
    go_enter Try.func57, Try.ntmps57
    go_wp2_with (first | (go_at_call 38; refine (is_any _ _ _ _).mono ?_; rintro en w' ⟨rfl, rfl⟩) | (go_at_call 68; refine (rargs_any _ _).mono ?_; rintro en w' ⟨rfl, rfl⟩))
    go_ret
    exact ⟨ret_bool HT.out.symm, HB.out⟩
set_option maxRecDepth 100000 in
set_option maxHeartbeats 4000000 in
theorem rcount_group (hk : IntsIn w.heap.size w Ak ks) (hkc : ks.length ≤ ck) : Calls Try.prog 57 #[.agg #[.int .i64 x, .int .i64 10, .int .i64 n, .slice Aa na ca, .slice Ak ks.length ck, .slice Al nb cb]] w fun e w' => e = .returned (.bool (countB x 10 n na ks nb)) ∧ Below w.heap.size w w' := by
  have HK := Lib.hid (fun (V : World) (hV : Below w.heap.size w V) => (show 0 < ks.length → ∃ b o, Ak = some ⟨b, o, none⟩ ∧ ∀ j, j < ks.length → V.cell? ⟨b, o + j, none⟩ = some (.int .i64 (nth ks j)) from fun h0 => by
    obtain ⟨b, o, h1, h2, h3⟩ := hk.at_ h0
    exact ⟨b, o, h1, fun j hj => (hV.cell (p := ⟨_, _, none⟩) h2).trans (h3 j hj)⟩))
  have h64 := hk.1
  clear hk
  obtain ⟨W0, hW0⟩ : ∃ W0, w.alloc (.cells #[.int .i64 x, .int .i64 10, .int .i64 n, .slice Aa na ca, .slice Ak ks.length ck, .slice Al nb cb] 54) = W0 := ⟨_, rfl⟩
  have hb0 : Below w.heap.size w W0 := by rw [← hW0]; exact (Below.refl _ _).alloc (Nat.le_refl _) _
  have hs0 : w.heap.size < W0.heap.size := by rw [← hW0]; simp
  obtain ⟨W1, hW1⟩ : ∃ W1, W0.alloc (.cells #[.int .i64 10, .int .i64 n, .slice Aa na ca, .slice Ak ks.length ck, .slice Al nb cb] 52) = W1 := ⟨_, rfl⟩
  have hb1 : Below W0.heap.size W0 W1 := by rw [← hW1]; exact (Below.refl _ _).alloc (Nat.le_refl _) _
  have d0 : W0.cell? ⟨w.heap.size, 0, none⟩ = some (.int .i64 x) := by rw [← hW0, World.cell?_alloc_at _ _ _ _ rfl]; rfl
  have d1 : W0.cell? ⟨w.heap.size, 1, none⟩ = some (.int .i64 10) := by rw [← hW0, World.cell?_alloc_at _ _ _ _ rfl]; rfl
  have d2 : W0.cell? ⟨w.heap.size, 2, none⟩ = some (.int .i64 n) := by rw [← hW0, World.cell?_alloc_at _ _ _ _ rfl]; rfl
  have d3 : W0.cell? ⟨w.heap.size, 3, none⟩ = some (.slice Aa na ca) := by rw [← hW0, World.cell?_alloc_at _ _ _ _ rfl]; rfl
  have d4 : W0.cell? ⟨w.heap.size, 4, none⟩ = some (.slice Ak ks.length ck) := by rw [← hW0, World.cell?_alloc_at _ _ _ _ rfl]; rfl
  have d5 : W0.cell? ⟨w.heap.size, 5, none⟩ = some (.slice Al nb cb) := by rw [← hW0, World.cell?_alloc_at _ _ _ _ rfl]; rfl
  have hR : RhsAt W0 W1 W0.heap.size 10 n Aa Ak Al na ca ks.length ck nb cb := by rw [← hW1]; exact RhsAt.new _ _ _ _ _ _ _ _ _ _ _ _
  obtain ⟨c0, c1, c2, c3, c4, cl⟩ := hR
  have g0 : W1.cell? ⟨w.heap.size, 0, none⟩ = some (.int .i64 x) := (hb1.cell (p := ⟨w.heap.size, 0, none⟩) hs0).trans d0
  have HB := Lib.hid (hb0.trans (hb1.mono hb0.size))
  clear hb0 hb1
  obtain ⟨out, hout⟩ : ∃ o, countB x 10 n na ks nb = o := ⟨_, rfl⟩
  rw [hout]
  have HO := Lib.hid (show out = ((groupH ks).all (fun h => inB h 0 255) && decide (3 ≤ ks.length) && ks.length % 3 == 0 && sumL (groupH ks) == (na : Int) && nth ks 0 == x) from hout.symm.trans (by simp [countB]))
  clear hout
  have HKK := Lib.hid (HK.out W1 HB.out)
  clear HK
  have HG := Lib.hid (groupH_get' ks)
  have hl := groupH_len ks
  obtain ⟨L, hL⟩ : ∃ L, ks.length = L := ⟨_, rfl⟩
  rw [hL] at hW0 hW1 d4 c3 hkc HO HKK HG hl h64 ⊢
  clear hL
  have HL := Lib.hid hl
  have hm : (L : Int).tmod 3 = ((L % 3 : Nat) : Int) := by rw [Int.tmod_eq_emod_of_nonneg (by omega)]; omega
  obtain ⟨md, hmd⟩ : ∃ md : Int, (L : Int).tmod 3 = md := ⟨_, rfl⟩
  have HMD := Lib.hid (show (md == 0) = (L % 3 == 0) from by rw [← hmd, hm]; exact nat_eq_bool _ 0)
  clear hm
  by_cases h3 : 3 ≤ L
  · have e3 : decide ((L : Int) < 3) = false := by simp; omega
    cases y1 : (md == 0)
    · have HF := Lib.hid (show out = false from HO.out.trans (by rw [← HMD.out, y1]; simp))
      have y1' : (md != 0) = true := by simp only [bne, y1]; rfl
      clear y1
      go_enter Try.func57, Try.ntmps57
      go_wp2_with fail
      go_quiet (fail)
      go_wp2_with fail
      go_ret
      exact ⟨ret_bool HF.out.symm, below_drewN HB.out _⟩
    · have y1' : (md != 0) = false := by simp only [bne, y1]; rfl
      obtain ⟨b, o, rfl, hall⟩ := HKK.out (by omega)
      have qk0 := hall 0 (by omega)
      have HALL := Lib.hid hall
      clear hall
      simp only [Nat.add_zero] at qk0
      have e5 : (0 : Int) < (L : Int) := by omega
      have e6 : (L : Int) ≤ (ck : Int) := by omega
      cases y2 : (x == nth ks 0)
      · have HF := Lib.hid (show out = false from HO.out.trans (by
          have : (nth ks 0 == x) = false := by rw [← y2, Bool.eq_iff_iff, beq_iff_eq, beq_iff_eq]; exact eq_comm
          rw [this]; simp))
        have y2' : (x != nth ks 0) = true := by simp only [bne, y2]; rfl
        clear y1 y2
        go_enter Try.func57, Try.ntmps57
        go_wp2_with fail
        go_quiet (fail)
        go_wp2_with fail
        go_ret
        exact ⟨ret_bool HF.out.symm, below_drewN HB.out _⟩
      · have HO2 := Lib.hid (show out = ((groupH ks).all (fun h => inB h 0 255) && sumL (groupH ks) == (na : Int)) from HO.out.trans (by
          have : (nth ks 0 == x) = true := by rw [← y2, Bool.eq_iff_iff, beq_iff_eq, beq_iff_eq]; exact eq_comm
          rw [this, ← HMD.out, y1]; simp [h3]))
        have y2' : (x != nth ks 0) = false := by simp only [bne, y2]; rfl
        clear y1 y2 HO
        go_enter Try.func57, Try.ntmps57
        go_wp2_with fail
        go_quiet (fail)
        go_wp2_with fail
        go_loopw [5, 6] (fun hv iv wr => ∃ j q : Nat, 3 * j ≤ L ∧ iv = .int .i64 (3 * (j : Int) + 2) ∧ hv = .int .i64 (sumL ((groupH ks).take j)) ∧ wr = W1.drewN q ∧ Hid (((groupH ks).take j).all (fun h => inB h 0 255) = true) ∧ 0 ≤ sumL ((groupH ks).take j) ∧ sumL ((groupH ks).take j) ≤ 255 * (j : Int)) (fun _ iv _ => 3 * L + 9 - (intOf iv).toNat)
        case atStart => exact ⟨0, _, by omega, rfl, rfl, rfl, Lib.hid (by simp), by simp [sumL], by simp [sumL]⟩
        case round =>
          obtain ⟨j, q, hj, rfl, rfl, rfl, HA, hs1, hs2⟩ := hrel
          by_cases hlt : 3 * j + 2 < L
          · have qk := HALL.out (3 * j + 2) hlt
            have e1 : (0 : Int) ≤ 3 * (j : Int) + 2 := by omega
            have e2 : 3 * (j : Int) + 2 < (L : Int) := by omega
            have e3 : (3 * (j : Int) + 2).toNat = 3 * j + 2 := by omega
            have e4 : IntKind.i64.wrap (3 * (j : Int) + 2 + 3) = 3 * (j : Int) + 2 + 3 := by rw [IntKind.wrap_i64]; omega
            have HGJ := Lib.hid (HG.out j hlt)
            cases hin : inB (nth ks (3 * j + 2)) 0 255
            · have HF := Lib.hid (show out = false from HO2.out.trans (by rw [all_false HGJ.out hin]; rfl))
              go_wp2_with (go_at_call 38; refine (is_any _ _ _ _).mono ?_; rintro en w' ⟨rfl, rfl⟩)
              go_ret
              exact ⟨ret_bool HF.out.symm, below_drewN HB.out _⟩
            · have HA2 := Lib.hid (all_take_succ HGJ.out HA.out hin)
              have hrng := inB_iff.1 hin
              have hsum : sumL ((groupH ks).take (j + 1)) = sumL ((groupH ks).take j) + nth ks (3 * j + 2) := by
                rw [List.take_add_one, HGJ.out]
                exact sumL_append _ _
              have HSUM := Lib.hid hsum
              have e6 : IntKind.i64.wrap (sumL ((groupH ks).take j) + nth ks (3 * j + 2)) = sumL ((groupH ks).take j) + nth ks (3 * j + 2) := by rw [IntKind.wrap_i64]; omega
              clear hsum
              generalize hS : sumL ((groupH ks).take j) = S at *
              go_wp2_with (go_at_call 38; refine (is_any _ _ _ _).mono ?_; rintro en w' ⟨rfl, rfl⟩)
              go_roundw
              case rel => exact ⟨j + 1, _, by omega, by go_num, by rw [HSUM.out], (by first | rfl | trivial), HA2, by rw [HSUM.out]; omega, by rw [HSUM.out]; omega⟩
              case measure => simp [intOf]; omega
          · have e2 : ¬ 3 * (j : Int) + 2 < (L : Int) := by omega
            have hfin : (groupH ks).take j = groupH ks := List.take_of_length_le (by rw [HL.out]; omega)
            have HAA := HA.out
            rw [hfin] at HAA hs1 hs2 ⊢
            have HF := Lib.hid (show out = (sumL (groupH ks) == (na : Int)) from HO2.out.trans (by rw [HAA]; simp))
            clear hfin HAA HA
            generalize sumL (groupH ks) = S at *
            go_wp2_with fail
            go_ret
            exact ⟨ret_bool HF.out.symm, below_drewN HB.out _⟩
  · have e3 : decide ((L : Int) < 3) = true := by simp; omega
    have HF := Lib.hid (show out = false from HO.out.trans (by simp [h3]))
    go_enter Try.func57, Try.ntmps57
    go_wp2_with fail
    go_quiet (fail)
    go_wp2_with fail
    go_ret
    exact ⟨ret_bool HF.out.symm, below_drewN HB.out _⟩
theorem rcount_any (k : Int) (hka : hasA k = true) (hk : IntsIn w.heap.size w Ak ks) (hkc : ks.length ≤ ck) : Calls Try.prog 57 #[.agg #[.int .i64 x, .int .i64 k, .int .i64 n, .slice Aa na ca, .slice Ak ks.length ck, .slice Al nb cb]] w fun e w' => e = .returned (.bool (countB x k n na ks nb)) ∧ Below w.heap.size w w' := by
  have h : k = 1 ∨ k = 6 ∨ k = 2 ∨ k = 3 ∨ k = 4 ∨ k = 9 ∨ k = 8 ∨ k = 10 := by simp [hasA] at hka; omega
  rcases h with rfl | rfl | rfl | rfl | rfl | rfl | rfl | rfl
  · exact rcount_atom x n Aa Ak Al na ca ck nb cb ks w
  · exact rcount_app x n Aa Ak Al na ca ck nb cb ks w
  · exact rcount_prim x n Aa Ak Al na ca ck nb cb ks w
  · exact rcount_block x n Aa Ak Al na ca ck nb cb ks w
  · exact rcount_field x n Aa Ak Al na ca ck nb cb ks w
  · exact rcount_close x n Aa Ak Al na ca ck nb cb ks w
  · exact rcount_switch x n Aa Ak Al na ca ck nb cb ks w hk.1
  · exact rcount_group x n Aa Ak Al na ca ck nb cb ks w hk hkc
end
end Go.Proofs.Ytnobggabjpcbfaa

/-
  camletref30.bind: what it finds in memory; are the variables known that it asks for?
-/
set_option linter.unusedVariables false
set_option linter.unusedSimpArgs false
namespace Go.Proofs.Ytnobggabjpcbfaa
open Go.RowKit Go.Maps

noncomputable def bdT3 : Code := match Try.f39.body with
  | some (.seq _ (.seq _ (.seq _ c))) => c
  | _ => .skip
noncomputable def bdT5 : Code := match Try.f39.body with
  | some (.seq _ (.seq _ (.seq _ (.seq _ c)))) => c
  | _ => .skip
noncomputable def bdT7 : Code := match Try.f39.body with
  | some (.seq _ (.seq _ (.seq _ (.seq _ (.seq _ c))))) => c
  | _ => .skip
noncomputable def bdT12 : Code := match Try.f39.body with
  | some (.seq _ (.seq _ (.seq _ (.seq _ (.seq _ (.seq _ c)))))) => c
  | _ => .skip
noncomputable def bdT17 : Code := match Try.f39.body with
  | some (.seq _ (.seq _ (.seq _ (.seq _ (.seq _ (.seq _ (.seq _ c))))))) => c
  | _ => .skip
noncomputable def bdT19 : Code := match Try.f39.body with
  | some (.seq _ (.seq _ (.seq _ (.seq _ (.seq _ (.seq _ (.seq _ (.seq _ c)))))))) => c
  | _ => .skip
noncomputable def bdT21 : Code := match Try.f39.body with
  | some (.seq _ (.seq _ (.seq _ (.seq _ (.seq _ (.seq _ (.seq _ (.seq _ (.seq _ c))))))))) => c
  | _ => .skip
noncomputable def bdT26 : Code := match Try.f39.body with
  | some (.seq _ (.seq _ (.seq _ (.seq _ (.seq _ (.seq _ (.seq _ (.seq _ (.seq _ (.seq _ c)))))))))) => c
  | _ => .skip
noncomputable def bdT31 : Code := match Try.f39.body with
  | some (.seq _ (.seq _ (.seq _ (.seq _ (.seq _ (.seq _ (.seq _ (.seq _ (.seq _ (.seq _ (.seq _ c))))))))))) => c
  | _ => .skip
noncomputable def bdT33 : Code := match Try.f39.body with
  | some (.seq _ (.seq _ (.seq _ (.seq _ (.seq _ (.seq _ (.seq _ (.seq _ (.seq _ (.seq _ (.seq _ (.seq _ c)))))))))))) => c
  | _ => .skip
noncomputable def bdC3 : Code := match Try.f39.body with
  | some (.seq _ (.seq _ (.seq _ (.seq c _)))) => c
  | _ => .skip
noncomputable def bdC5 : Code := match Try.f39.body with
  | some (.seq _ (.seq _ (.seq _ (.seq _ (.seq c _))))) => c
  | _ => .skip
noncomputable def bdC7 : Code := match Try.f39.body with
  | some (.seq _ (.seq _ (.seq _ (.seq _ (.seq _ (.seq c _)))))) => c
  | _ => .skip
noncomputable def bdC12 : Code := match Try.f39.body with
  | some (.seq _ (.seq _ (.seq _ (.seq _ (.seq _ (.seq _ (.seq c _))))))) => c
  | _ => .skip
noncomputable def bdC17 : Code := match Try.f39.body with
  | some (.seq _ (.seq _ (.seq _ (.seq _ (.seq _ (.seq _ (.seq _ (.seq c _)))))))) => c
  | _ => .skip
noncomputable def bdC19 : Code := match Try.f39.body with
  | some (.seq _ (.seq _ (.seq _ (.seq _ (.seq _ (.seq _ (.seq _ (.seq _ (.seq c _))))))))) => c
  | _ => .skip
noncomputable def bdC21 : Code := match Try.f39.body with
  | some (.seq _ (.seq _ (.seq _ (.seq _ (.seq _ (.seq _ (.seq _ (.seq _ (.seq _ (.seq c _)))))))))) => c
  | _ => .skip
noncomputable def bdC26 : Code := match Try.f39.body with
  | some (.seq _ (.seq _ (.seq _ (.seq _ (.seq _ (.seq _ (.seq _ (.seq _ (.seq _ (.seq _ (.seq c _))))))))))) => c
  | _ => .skip
noncomputable def bdC31 : Code := match Try.f39.body with
  | some (.seq _ (.seq _ (.seq _ (.seq _ (.seq _ (.seq _ (.seq _ (.seq _ (.seq _ (.seq _ (.seq _ (.seq c _)))))))))))) => c
  | _ => .skip
noncomputable def bdR32 : Code := match Try.f39.body with
  | some (.seq _ (.seq _ (.seq _ (.seq _ (.seq _ (.seq _ (.seq _ (.seq _ (.seq _ (.seq _ (.seq _ (.seq (.seq _ (.cond _ c _)) _)))))))))))) => c
  | _ => .skip
/-- an int is answered, what stood stands -/
def IntBelow (z : Int) (w : World) (e : Ending) (w' : World) : Prop := e = .returned (.int .i64 z) ∧ Below w.heap.size w w'
/-- the copies of the bind and of its right side; what they lead to -/
structure BCtx (w W1 : World) (X3 X7 : Nat) (x k n : Int) (Aa Ak Al A2 : Option Addr) (ats : List Atm) (ks : List Int) (ca ck nb cb c2 : Nat) (l : List Int) : Prop where
  bel : Below w.heap.size w W1
  h3 : W1.heap[X3]? = some (.cells #[.int .i64 x, .int .i64 k, .int .i64 n, .slice Aa ats.length ca, .slice Ak ks.length ck, .slice Al nb cb] 54 (0, 0))
  h7 : W1.heap[X7]? = some (.cells #[.int .i64 k, .int .i64 n, .slice Aa ats.length ca, .slice Ak ks.length ck, .slice Al nb cb] 52 (0, 0))
  ha : AtomsIn W1.heap.size W1 Aa ats
  hac : ats.length ≤ ca
  hk : IntsIn W1.heap.size W1 Ak ks
  hkc : ks.length ≤ ck
  hl : IntsIn W1.heap.size W1 A2 l
  hlc : l.length ≤ c2
section
variable {w W1 : World} {X3 X7 : Nat} {x k n : Int} {Aa Ak Al A2 : Option Addr} {ats : List Atm} {ks : List Int} {ca ck nb cb c2 : Nat} {l : List Int} {out : Int} {V : World}
theorem BCtx.out_ (C : BCtx w W1 X3 X7 x k n Aa Ak Al A2 ats ks ca ck nb cb c2 l) (hV : Below W1.heap.size W1 V) : Below w.heap.size w V := C.bel.trans (hV.mono C.bel.size)
theorem BCtx.cells7 (C : BCtx w W1 X3 X7 x k n Aa Ak Al A2 ats ks ca ck nb cb c2 l) (hV : Below W1.heap.size W1 V) : V.cell? ⟨X7, 0, none⟩ = some (.int .i64 k) ∧ V.cell? ⟨X7, 1, none⟩ = some (.int .i64 n) ∧ V.cell? ⟨X7, 2, none⟩ = some (.slice Aa ats.length ca) ∧ V.cell? ⟨X7, 3, none⟩ = some (.slice Ak ks.length ck) ∧ V.cell? ⟨X7, 4, none⟩ = some (.slice Al nb cb) := by
  have h := (hV.block _ (heap_lt C.h7)).trans C.h7
  exact ⟨by simp [World.cell?, h], by simp [World.cell?, h], by simp [World.cell?, h], by simp [World.cell?, h], by simp [World.cell?, h]⟩
theorem BCtx.cells3 (C : BCtx w W1 X3 X7 x k n Aa Ak Al A2 ats ks ca ck nb cb c2 l) (hV : Below W1.heap.size W1 V) : V.cell? ⟨X3, 0, none⟩ = some (.int .i64 x) ∧ V.cell? ⟨X3, 1, none⟩ = some (.int .i64 k) ∧ V.cell? ⟨X3, 2, none⟩ = some (.int .i64 n) ∧ V.cell? ⟨X3, 3, none⟩ = some (.slice Aa ats.length ca) ∧ V.cell? ⟨X3, 4, none⟩ = some (.slice Ak ks.length ck) ∧ V.cell? ⟨X3, 5, none⟩ = some (.slice Al nb cb) := by
  have h := (hV.block _ (heap_lt C.h3)).trans C.h3
  exact ⟨by simp [World.cell?, h], by simp [World.cell?, h], by simp [World.cell?, h], by simp [World.cell?, h], by simp [World.cell?, h], by simp [World.cell?, h]⟩
theorem BCtx.atoms (C : BCtx w W1 X3 X7 x k n Aa Ak Al A2 ats ks ca ck nb cb c2 l) (hV : Below W1.heap.size W1 V) (j : Nat) (hj : j < ats.length) : ∃ b o, Aa = some ⟨b, o, none⟩ ∧ V.cell? ⟨b, o + j * 2, none⟩ = some (.bool (ats[j]?.getD default).v) ∧ V.cell? ⟨b, o + j * 2 + 1, none⟩ = some (.int .i64 (ats[j]?.getD default).n) := by
  rcases C.ha.2 with h0 | ⟨b, o, h1, h2, h3⟩
  · rw [h0] at hj; simp at hj
  · exact ⟨b, o, h1, (hV.cell (p := ⟨_, _, none⟩) h2).trans (h3 j hj).1, (hV.cell (p := ⟨_, _, none⟩) h2).trans (h3 j hj).2⟩
theorem BCtx.keys (C : BCtx w W1 X3 X7 x k n Aa Ak Al A2 ats ks ca ck nb cb c2 l) (hV : Below W1.heap.size W1 V) (j : Nat) (hj : j < ks.length) : ∃ b o, Ak = some ⟨b, o, none⟩ ∧ (∀ i, i < ks.length → V.cell? ⟨b, o + i, none⟩ = some (.int .i64 (nth ks i))) := by
  obtain ⟨b, o, h1, h2, h3⟩ := C.hk.at_ (by omega)
  exact ⟨b, o, h1, fun i hi => (hV.cell (p := ⟨_, _, none⟩) h2).trans (h3 i hi)⟩
theorem BCtx.known (C : BCtx w W1 X3 X7 x k n Aa Ak Al A2 ats ks ca ck nb cb c2 l) (hV : Below W1.heap.size W1 V) : IntsIn V.heap.size V A2 l := (C.hl.below hV).mono hV.size
theorem getD_at {ats : List Atm} {j : Nat} (h : j < ats.length) : ats[j]? = some (ats[j]?.getD default) := by rw [List.getElem?_eq_getElem h]; rfl
set_option maxRecDepth 100000 in
set_option maxHeartbeats 8000000 in
theorem bd_T33 (C : BCtx w W1 X3 X7 x k n Aa Ak Al A2 ats ks ca ck nb cb c2 l) (hV : Below W1.heap.size W1 V) {A' : Option Addr} {c' : Nat} {l' : List Int} (hl : IntsIn V.heap.size V A' l') (hlc : l'.length ≤ c') (hout : out = if ats.all (asksB l') = false then 16 else 0) (u0 u1 u4 u5 u6 u8 u9 u10 u11 u12 u13 u14 u15 u16 u17 u18 u19 u20 u21 u22 u23 u24 u25 u26 u27 u28 u29 u30 u31 u32 u33 u34 u35 u36 u37 u38 u39 u40 u41 u42 u43 u44 u45 u46 u47 u48 u49 u50 u51 u52 u53 u54 u55 u56 u57 u58 u59 u60 u61 u62 u63 u64 u65 u66 u67 u68 u69 u70 u71 u72 u73 u74 u75 u76 u77 u78 u79 u80 u81 u82 u83 u84 u85 u86 u87 u88 u89 u90 u91 u92 u93 u94 u95 u96 u97 u98 u99 u100 u101 u102 u103 u104 u105 u106 u107 u108 u109 u110 u111 u112 u113 u114 u115 u116 u117 u118 u119 u120 u121 u122 u123 u124 u125 u126 u127 u128 u129 u130 u131 u132 u133 u134 u135 u136 u137 u138 u139 u140 u141 u142 u143 u144 u145 u146 u147 u148 u149 u150 u151 u152 u153 u154 u155 u156 u157 u158 u159 u160 u161 u162 u163 u164 u165 u166 u167 u168 u169 u170 u171 u172 u173 u174 u175 u176 u177 u178 u179 u180 u181 u182 u183 u184 u185 u186 u187 u188 u189 u190 u191 u192 u193 u194 u195 u196 u197 u198 u199 u200 u201 u202 u203 u204 u205 u206 u207 u208 u209 u210 u211 u212 u213 u214 u215 u216 u217 u218 u219 u220 u221 u222 u223 u224 u225 u226 u227 u228 u229 u230 u231 u232 u233 u234 u235 u236 : Value) :
    bdT33.wp Try.prog (bodyPost Try.prog Try.f39 (IntBelow out w)) { tmps := #[u0, u1, .slice A' l'.length c', .pointer (some ⟨X3, 0, none⟩), u4, u5, u6, .pointer (some ⟨X7, 0, none⟩), u8, u9, u10, u11, u12, u13, u14, u15, u16, u17, u18, u19, u20, u21, u22, u23, u24, u25, u26, u27, u28, u29, u30, u31, u32, u33, u34, u35, u36, u37, u38, u39, u40, u41, u42, u43, u44, u45, u46, u47, u48, u49, u50, u51, u52, u53, u54, u55, u56, u57, u58, u59, u60, u61, u62, u63, u64, u65, u66, u67, u68, u69, u70, u71, u72, u73, u74, u75, u76, u77, u78, u79, u80, u81, u82, u83, u84, u85, u86, u87, u88, u89, u90, u91, u92, u93, u94, u95, u96, u97, u98, u99, u100, u101, u102, u103, u104, u105, u106, u107, u108, u109, u110, u111, u112, u113, u114, u115, u116, u117, u118, u119, u120, u121, u122, u123, u124, u125, u126, u127, u128, u129, u130, u131, u132, u133, u134, u135, u136, u137, u138, u139, u140, u141, u142, u143, u144, u145, u146, u147, u148, u149, u150, u151, u152, u153, u154, u155, u156, u157, u158, u159, u160, u161, u162, u163, u164, u165, u166, u167, u168, u169, u170, u171, u172, u173, u174, u175, u176, u177, u178, u179, u180, u181, u182, u183, u184, u185, u186, u187, u188, u189, u190, u191, u192, u193, u194, u195, u196, u197, u198, u199, u200, u201, u202, u203, u204, u205, u206, u207, u208, u209, u210, u211, u212, u213, u214, u215, u216, u217, u218, u219, u220, u221, u222, u223, u224, u225, u226, u227, u228, u229, u230, u231, u232, u233, u234, u235, u236], defers := [] } V := by
  obtain ⟨-, -, q2, -, -⟩ := C.cells7 hV
  have HA := Lib.hid (C.atoms hV)
  have HH := Lib.hid (fun (m : Int) => rhas_any A' c' l' m V hl hlc)
  have HO := Lib.hid hout
  have HB := Lib.hid (C.out_ hV)
  have h16 := C.ha.1
  have hac := C.hac
  clear C hV hl hlc hout
  obtain ⟨L, hL⟩ : ∃ L, ats.length = L := ⟨_, rfl⟩
  have HL := Lib.hid hL
  rw [hL] at q2 HA h16 hac
  clear hL
  generalize l'.length = ll at *
  obtain ⟨Q, hQ⟩ : ∃ Q, (bodyPost Try.prog Try.f39 (IntBelow out w)) = Q := ⟨_, rfl⟩
  have HQ := Lib.hid hQ
  rw [hQ]
  clear hQ
  unfold bdT33 Try.f39
  dsimp only
  go_wp2_with fail
  go_loopw [17] (fun iv wr => ∃ j : Nat, j ≤ L ∧ iv = .int .i64 (j : Int) ∧ V = wr ∧ Hid ((ats.take j).all (asksB l') = true)) (fun iv _ => L + 1 - (intOf iv).toNat)
  case atStart => exact ⟨0, by omega, rfl, rfl, Lib.hid (by simp)⟩
  case round =>
    obtain ⟨j, hj, rfl, rfl, HT⟩ := hrel
    by_cases hlt : j < L
    · obtain ⟨b, o, rfl, y0, y1⟩ := HA.out j hlt
      have e1 : (0 : Int) ≤ (j : Int) := by omega
      have e2 : (j : Int) < (L : Int) := by omega
      have e4 : IntKind.i64.wrap ((j : Int) + 1) = (j : Int) + 1 := by rw [IntKind.wrap_i64]; omega
      have e5 : (L : Int) ≤ (ca : Int) := by omega
      have HG := Lib.hid (getD_at (ats := ats) (j := j) (by rw [HL.out]; exact hlt))
      generalize ats[j]?.getD default = at_ at *
      obtain ⟨v, m⟩ := at_
      simp only [] at y0 y1
      cases v
      · have HT2 := Lib.hid (all_take_succ HG.out HT.out (f := asksB l') rfl)
        go_wp2_with fail
        go_roundw
        case rel => exact ⟨j + 1, by omega, by go_num, (by first | rfl | trivial), HT2⟩
        case measure => simp [intOf]; omega
      · have HM := Lib.hid (HH.out m)
        have HAS := Lib.hid (show asksB l' ⟨true, m⟩ = l'.contains m from rfl)
        generalize l'.contains m = cb_ at *
        cases cb_
        · have HF := Lib.hid (show out = 16 from HO.out.trans (by rw [if_pos (all_false HG.out HAS.out)]))
          go_wp2_with (go_at_call 42; refine HM.out.mono ?_; rintro en w' ⟨rfl, rfl⟩)
          rw [← HQ.out]
          go_ret
          exact ⟨ret_int HF.out.symm, HB.out⟩
        · have HT2 := Lib.hid (all_take_succ HG.out HT.out (f := asksB l') HAS.out)
          go_wp2_with (go_at_call 42; refine HM.out.mono ?_; rintro en w' ⟨rfl, rfl⟩)
          go_roundw
          case rel => exact ⟨j + 1, by omega, by go_num, (by first | rfl | trivial), HT2⟩
          case measure => simp [intOf]; omega
    · have e2 : ¬ (j : Int) < (L : Int) := by omega
      have HF := Lib.hid (show out = 0 from HO.out.trans (by
        have h := HT.out
        rw [List.take_of_length_le (by rw [HL.out]; omega)] at h
        rw [if_neg (by rw [h]; decide)]))
      go_wp2_with fail
      rw [← HQ.out]
      go_ret
      exact ⟨ret_int HF.out.symm, HB.out⟩
end
end Go.Proofs.Ytnobggabjpcbfaa
