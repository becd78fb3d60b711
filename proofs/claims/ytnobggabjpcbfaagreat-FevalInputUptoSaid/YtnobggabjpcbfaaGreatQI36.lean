/-
 2 texts of this seat in one: B7 B2.
-/
import Derived.Test.YtnobggabjpcbfaaGreatQI34
import Derived.Test.YtnobggabjpcbfaaGreatQI15
import Derived.Test.YtnobggabjpcbfaaGreatQI35
set_option maxRecDepth 100000
set_option maxHeartbeats 16000000
set_option linter.unusedVariables false
set_option linter.unusedSimpArgs false
namespace Go.Proofs.YtnobggabjpcbfaaGreat
open Go.RowKit Go.Maps
theorem ints_nil (B : Nat) (w : World) : IntsIn B w none [] := ⟨by simp, .inl rfl⟩
theorem AnfAt.plain {B : Nat} {w : World} {b o i : Nat} {x k n : Int} {ats : List Atm} {rest : Anf} {Aa : Option Addr} {ca : Nat} (hb : b < B)
 (c0 : w.cell? ⟨b, o + i * 6, none⟩ = some (.int .i64 x)) (c1 : w.cell? ⟨b, o + i * 6 + 1, none⟩ = some (.int .i64 k)) (c2 : w.cell? ⟨b, o + i * 6 + 2, none⟩ = some (.int .i64 n))
 (c3 : w.cell? ⟨b, o + i * 6 + 3, none⟩ = some (.slice Aa ats.length ca)) (c4 : w.cell? ⟨b, o + i * 6 + 4, none⟩ = some (.slice none 0 0)) (c5 : w.cell? ⟨b, o + i * 6 + 5, none⟩ = some (.slice none 0 0))
 (ha : AtomsIn B w Aa ats) (hac : ats.length ≤ ca) (hr : AnfAt B w b o (i + 1) rest) : AnfAt B w b o i (.bind x k n ats [] [] rest) :=
 .bind (ks := []) (bl := []) (bb := 0) (oo := 0) (AB := fun _ => none) (CB := fun _ => 0) (BB := fun _ => 0) (OO := fun _ => 0) hb c0 c1 c2 c3 c4 c5 ha hac (ints_nil B w) (Nat.le_refl _) (Nat.le_refl _) (by simp) (by simp)
  (by intro j h; simp at h) (by intro j h; simp at h) (by intro j h; simp at h) (by intro j h; simp at h) (by intro j h; simp at h) hr
theorem atoms1 {w : World} {g : Nat} {v : Bool} {n : Int} {t : TypeId} (h : w.heap[g]? = some (.cells #[.bool v, .int .i64 n] t (0, 0))) : AtomsIn w.heap.size w (some ⟨g, 0, none⟩) [⟨v, n⟩] := by
 refine ⟨by simp, .inr ⟨g, 0, rfl, heap_lt h, fun j hj => ?_⟩⟩
 obtain rfl : j = 0 := by simpa using hj
 exact ⟨by simp [World.cell?, h], by simp [World.cell?, h]⟩
theorem atoms2 {w : World} {g : Nat} {v v' : Bool} {n n' : Int} {t : TypeId} (h : w.heap[g]? = some (.cells #[.bool v, .int .i64 n, .bool v', .int .i64 n'] t (0, 0))) : AtomsIn w.heap.size w (some ⟨g, 0, none⟩) [⟨v, n⟩, ⟨v', n'⟩] := by
 refine ⟨by simp, .inr ⟨g, 0, rfl, heap_lt h, fun j hj => ?_⟩⟩
 have : j = 0 ∨ j = 1 := by simp at hj; omega
 rcases this with rfl | rfl
 · exact ⟨by simp [World.cell?, h], by simp [World.cell?, h]⟩
 · exact ⟨by simp [World.cell?, h], by simp [World.cell?, h]⟩
theorem kbody_in {w : World} {bf g3 g5 : Nat} (hf : w.heap[bf]? = some (.cells #[.bool true, .int .i64 0] 25 (0, 0))) (h3 : w.heap[g3]? = some (.cells #[.bool true, .int .i64 1, .bool true, .int .i64 2] 25 (0, 0))) (h5 : w.heap[g5]? = some (.cells #[.int .i64 2, .int .i64 4, .int .i64 1, .slice (some ⟨bf, 0, none⟩) 1 1, .slice none 0 0, .slice none 0 0, .int .i64 3, .int .i64 2, .int .i64 1, .slice (some ⟨g3, 0, none⟩) 2 2, .slice none 0 0, .slice none 0 0] 62 (0, 0))) :
 BodyIn w.heap.size w kbody #[.slice (some ⟨g5, 0, none⟩) 2 2, .bool true, .int .i64 3] := by
 refine ⟨some ⟨g5, 0, none⟩, 2, g5, 0, rfl, Nat.le_refl _, by decide, fun _ => rfl, ?_⟩
 refine .plain (heap_lt h5) (Aa := some ⟨bf, 0, none⟩) (ca := 1) ?_ ?_ ?_ ?_ ?_ ?_ (atoms1 hf) (Nat.le_refl _) ?_
 iterate 6 simp [World.cell?, h5]
 refine .plain (heap_lt h5) (Aa := some ⟨g3, 0, none⟩) (ca := 2) ?_ ?_ ?_ ?_ ?_ ?_ (atoms2 h3) (Nat.le_refl _) (.ret _ _ _ _)
 iterate 6 simp [World.cell?, h5]
theorem kmain_in {w : World} {bc ga gs gb : Nat} (hc : w.heap[bc]? = some (.cells #[.bool false, .int .i64 7] 25 (0, 0))) (ha : w.heap[ga]? = some (.cells #[.bool true, .int .i64 0, .bool false, .int .i64 5] 25 (0, 0))) (hs : w.heap[gs]? = some (.cells #[.bool true, .int .i64 1] 25 (0, 0))) (hb : w.heap[gb]? = some (.cells #[.int .i64 0, .int .i64 9, .int .i64 0, .slice (some ⟨bc, 0, none⟩) 1 1, .slice none 0 0, .slice none 0 0, .int .i64 1, .int .i64 6, .int .i64 0, .slice (some ⟨ga, 0, none⟩) 2 2, .slice none 0 0, .slice none 0 0, .int .i64 2, .int .i64 2, .int .i64 13, .slice (some ⟨gs, 0, none⟩) 1 1, .slice none 0 0, .slice none 0 0] 62 (0, 0))) :
 BodyIn w.heap.size w kmain #[.slice (some ⟨gb, 0, none⟩) 3 3, .bool false, .int .i64 0] := by
 refine ⟨some ⟨gb, 0, none⟩, 3, gb, 0, rfl, Nat.le_refl _, by decide, fun _ => rfl, ?_⟩
 refine .plain (heap_lt hb) (Aa := some ⟨bc, 0, none⟩) (ca := 1) ?_ ?_ ?_ ?_ ?_ ?_ (atoms1 hc) (Nat.le_refl _) ?_
 iterate 6 simp [World.cell?, hb]
 refine .plain (heap_lt hb) (Aa := some ⟨ga, 0, none⟩) (ca := 2) ?_ ?_ ?_ ?_ ?_ ?_ (atoms2 ha) (Nat.le_refl _) ?_
 iterate 6 simp [World.cell?, hb]
 refine .plain (heap_lt hb) (Aa := some ⟨gs, 0, none⟩) (ca := 1) ?_ ?_ ?_ ?_ ?_ ?_ (atoms1 hs) (Nat.le_refl _) (.ret _ _ _ _)
 iterate 6 simp [World.cell?, hb]
theorem heap1_ (w : World) (a b : Obj) : ((w.alloc a).alloc b).heap[w.heap.size]? = some a :=
 (((Below.refl _ _).alloc (Nat.le_refl _) _ : Below (w.alloc a).heap.size (w.alloc a) ((w.alloc a).alloc b)).block w.heap.size (by simp)).trans (World.alloc_heap_new w a)
theorem heap2_ (w : World) (a b : Obj) : ((w.alloc a).alloc b).heap[w.heap.size + 1]? = some b := by
 have := World.alloc_heap_new (w.alloc a) b
 rw [World.size_alloc] at this
 exact this
theorem BodyIn.later {w w' : World} {t : Anf} {v : Array Value} (h : BodyIn w.heap.size w t v) (hb : Below w.heap.size w w') : BodyIn w'.heap.size w' t v := (h.kept hb).mono hb.size
theorem FlatIn.later {w w' : World} {p : FlatP} {v : Array Value} (h : FlatIn w.heap.size w p v) (hb : Below w.heap.size w w') : FlatIn w'.heap.size w' p v := (h.kept hb).mono hb.size
def RunPost (pe : PEnd) (w : World) (e : Ending) (w' : World) : Prop := ∃ v A c, v = .agg #[.int .i64 pe.kind, .int .i64 pe.n, .slice A pe.out.length c, .int .i64 pe.steps] ∧ e = .returned v ∧ EndV w' pe v ∧ Below w.heap.size w w' ∧ (∀ a, A = some a → w.heap.size ≤ a.block)
theorem run_ready {w : World} {p : FlatP} {v : Array Value} (hin : FlatIn w.heap.size w p v) (hsm : SmallF p) {inp : List Int} {Ai : Option Addr} {ci : Nat} (hi : IntsIn w.heap.size w Ai inp) (hci : inp.length ≤ ci) (f : Int) :
 Calls Tryz.prog 7 #[.agg v, .slice Ai inp.length ci, .int .i64 f] w (RunPost (runE p inp f) w) := by
 refine (frun_any hin (Nat.le_refl _) (fun W v hin => cright_any hsm W hin) hi hci f).mono fun e w' ⟨A, c, h1, h2, h3, h4, h5⟩ => ⟨_, A, c, rfl, h1, ⟨A, c, rfl, h2⟩, h5, h4⟩
theorem ints_one {V : World} {b : Nat} {n : Int} (h : V.cell? ⟨b, 0, none⟩ = some (.int .i64 n)) : IntsIn V.heap.size V (some ⟨b, 0, none⟩) [n] := by
 refine ⟨by simp, .inr ⟨b, 0, rfl, World.block_lt_of_cell? _ _ h, fun j hj => ?_⟩⟩
 obtain rfl : j = 0 := by simpa using hj
 simpa [nth] using h
theorem kn_tail5 {W V : World} (hb : Below W.heap.size W V) {X2 X4 g5 gb : Nat} (h2 : V.heap[X2]? = some (.cells #[.slice (some ⟨g5, 0, none⟩) 2 2, .bool true, .int .i64 3] 27 (0, 0))) (h4 : V.heap[X4]? = some (.cells #[.slice (some ⟨gb, 0, none⟩) 3 3, .bool false, .int .i64 0] 27 (0, 0)))
 (hbody : BodyIn V.heap.size V kbody #[.slice (some ⟨g5, 0, none⟩) 2 2, .bool true, .int .i64 3]) (hmain : BodyIn V.heap.size V kmain #[.slice (some ⟨gb, 0, none⟩) 3 3, .bool false, .int .i64 0]) (u0 u1 u3 u5 u6 u7 u8 u9 u10 u11 u12 u13 u14 u15 u16 u17 u18 u19 u20 u21 u22 u23 u24 u25 u26 u27 u28 u29 u30 u31 u32 u33 u34 u35 u36 u37 u38 u39 u40 u41 u42 u43 u44 u45 u46 u47 u48 u49 u50 : Value) :
 knowsT5.wp Tryz.prog (bodyPost Tryz.prog Tryz.f6 (BoolBelow true W)) { tmps := #[u0, u1, .pointer (some ⟨X2, 0, none⟩), u3, .pointer (some ⟨X4, 0, none⟩), u5, u6, u7, u8, u9, u10, u11, u12, u13, u14, u15, u16, u17, u18, u19, u20, u21, u22, u23, u24, u25, u26, u27, u28, u29, u30, u31, u32, u33, u34, u35, u36, u37, u38, u39, u40, u41, u42, u43, u44, u45, u46, u47, u48, u49, u50], defers := [] } V := by
 obtain ⟨V5, hV5⟩ : ∃ V5, V.alloc (.cells #[.int .i64 0, .int .i64 1, .slice (some ⟨g5, 0, none⟩) 2 2, .bool true, .int .i64 3] 54) = V5 := ⟨_, rfl⟩
 have hb5 : Below V.heap.size V V5 := by rw [← hV5]; exact (Below.refl _ _).alloc (Nat.le_refl _) _
 have h55 : V5.heap[V.heap.size]? = some (.cells #[.int .i64 0, .int .i64 1, .slice (some ⟨g5, 0, none⟩) 2 2, .bool true, .int .i64 3] 54 (0, 0)) := by rw [← hV5]; exact World.alloc_heap_new V _
 have hflat : FlatIn V5.heap.size V5 kprog #[.slice (some ⟨V.heap.size, 0, none⟩) 1 1, .slice (some ⟨gb, 0, none⟩) 3 3, .bool false, .int .i64 0] := by
  refine ⟨some ⟨V.heap.size, 0, none⟩, 1, V.heap.size, 0, _, _, _, rfl, Nat.le_refl _, by simp [kprog], hmain.later hb5, fun _ => ⟨rfl, heap_lt h55⟩, fun j hj => ?_⟩
  obtain rfl : j = 0 := by simpa [kprog] using hj
  exact ⟨_, _, _, by simp [World.cell?, h55, kprog], by simp [World.cell?, h55, kprog], by simp [World.cell?, h55], by simp [World.cell?, h55], by simp [World.cell?, h55], hbody.later hb5⟩
 have hR := run_ready hflat ksmall (inp := []) (Ai := none) (ci := 0) (ints_nil _ _) (Nat.le_refl _) 99
 rw [know1] at hR
 have HR := Lib.hid hR
 have HB := Lib.hid (hb.trans (hb5.mono hb.size))
 have a0 : V.cell? ⟨X2, 0, none⟩ = some (.slice (some ⟨g5, 0, none⟩) 2 2) := by simp [World.cell?, h2]
 have a1 : V.cell? ⟨X2, 1, none⟩ = some (.bool true) := by simp [World.cell?, h2]
 have a2 : V.cell? ⟨X2, 2, none⟩ = some (.int .i64 3) := by simp [World.cell?, h2]
 have b0 : V5.cell? ⟨X4, 0, none⟩ = some (.slice (some ⟨gb, 0, none⟩) 3 3) := cell_behind hb5 (by simp [World.cell?, h4])
 have b1 : V5.cell? ⟨X4, 1, none⟩ = some (.bool false) := cell_behind hb5 (by simp [World.cell?, h4])
 have b2 : V5.cell? ⟨X4, 2, none⟩ = some (.int .i64 0) := cell_behind hb5 (by simp [World.cell?, h4])
 have hs5 : V.heap.size ≤ V5.heap.size := hb5.size
 have HW := Lib.hid hb.size
 clear hR hflat hb hb5 h55 hbody hmain h2 h4
 subst hV5
 obtain ⟨Q, hQ⟩ : ∃ Q, (bodyPost Tryz.prog Tryz.f6 (BoolBelow true W)) = Q := ⟨_, rfl⟩
 have HQ := Lib.hid hQ
 rw [hQ]
 clear hQ
 unfold knowsT5 Tryz.f6
 dsimp only
 go_wp2_with fail
 refine HR.out.mono ?_
 rintro e w2 ⟨v, A, c, rfl, rfl, hE, hb2, _⟩
 obtain ⟨A', c', heq, hi⟩ := hE
 simp only [Value.agg.injEq, Array.mk.injEq, List.cons.injEq, Value.slice.injEq, true_and, and_true] at heq
 obtain ⟨rfl, rfl⟩ := heq
 have HB2 := Lib.hid (HB.out.trans (hb2.mono HB.out.size))
 have HI := Lib.hid hi
 clear hb2 hi a0 a1 a2 b0 b1 b2 HR
 clear hs5
 have hb14 : Below w2.heap.size w2 ((w2.alloc (.cells #[.int .i64 1, .int .i64 0, .slice A 1 c, .int .i64 6] 35)).alloc (.cells #[.int .i64 12] 3)) := ((Below.refl _ _).alloc (Nat.le_refl _) _).alloc (by simp) _
 have h14 : ((w2.alloc (.cells #[.int .i64 1, .int .i64 0, .slice A 1 c, .int .i64 6] 35)).alloc (.cells #[.int .i64 12] 3)).cell? ⟨w2.heap.size + 1, 0, none⟩ = some (.int .i64 12) := by
  rw [World.cell?_alloc_at _ _ _ _ (by simp)]; rfl
 have h140 : ((w2.alloc (.cells #[.int .i64 1, .int .i64 0, .slice A 1 c, .int .i64 6] 35)).alloc (.cells #[.int .i64 12] 3)).heap[w2.heap.size]? = some (.cells #[.int .i64 1, .int .i64 0, .slice A 1 c, .int .i64 6] 35) :=
  (((Below.refl _ _).alloc (Nat.le_refl _) _ : Below (w2.alloc (.cells #[.int .i64 1, .int .i64 0, .slice A 1 c, .int .i64 6] 35)).heap.size _ _).block w2.heap.size (by simp)).trans (World.alloc_heap_new w2 _)
 have S1 := Lib.hid (sameInts_any (c := c) (c' := 1) _ ((HI.out.below hb14).mono hb14.size) (ints_one h14))
 have HB14 := Lib.hid (HB2.out.trans (hb14.mono HB2.out.size))
 go_wp2_with fail
 generalize (w2.alloc (.cells #[.int .i64 1, .int .i64 0, .slice A 1 c, .int .i64 6] 35)).alloc (.cells #[.int .i64 12] 3) = w14 at *
 refine S1.out.mono ?_
 rintro e w15 ⟨rfl, n1, rfl⟩
 have r0 : w14.cell? ⟨w2.heap.size, 3, none⟩ = some (.int .i64 6) := by simp [World.cell?, h140]
 clear hb14 h14
 go_wp2_with fail
 rw [← HQ.out]
 go_ret
 exact ⟨rfl, below_drewN HB14.out _⟩
theorem kn_tail3 {W V : World} (hb : Below W.heap.size W V) {X2 g5 : Nat} (h2 : V.heap[X2]? = some (.cells #[.slice (some ⟨g5, 0, none⟩) 2 2, .bool true, .int .i64 3] 27 (0, 0))) (hbody : BodyIn V.heap.size V kbody #[.slice (some ⟨g5, 0, none⟩) 2 2, .bool true, .int .i64 3]) (u0 u1 u3 u4 u5 u6 u7 u8 u9 u10 u11 u12 u13 u14 u15 u16 u17 u18 u19 u20 u21 u22 u23 u24 u25 u26 u27 u28 u29 u30 u31 u32 u33 u34 u35 u36 u37 u38 u39 u40 u41 u42 u43 u44 u45 u46 u47 u48 u49 u50 : Value) :
 knowsT3.wp Tryz.prog (bodyPost Tryz.prog Tryz.f6 (BoolBelow true W)) { tmps := #[u0, u1, .pointer (some ⟨X2, 0, none⟩), u3, u4, u5, u6, u7, u8, u9, u10, u11, u12, u13, u14, u15, u16, u17, u18, u19, u20, u21, u22, u23, u24, u25, u26, u27, u28, u29, u30, u31, u32, u33, u34, u35, u36, u37, u38, u39, u40, u41, u42, u43, u44, u45, u46, u47, u48, u49, u50], defers := [] } V := by
 have HINT := Lib.hid (mkint_any 7 V)
 have H2 := Lib.hid h2
 have HBODY := Lib.hid hbody
 have HB := Lib.hid hb
 clear h2 hbody hb
 obtain ⟨Q, hQ⟩ : ∃ Q, (bodyPost Tryz.prog Tryz.f6 (BoolBelow true W)) = Q := ⟨_, rfl⟩
 have HQ := Lib.hid hQ
 rw [hQ]
 clear hQ
 unfold knowsT3 Tryz.f6
 dsimp only
 go_wp2_with fail
 refine HINT.out.mono ?_
 rintro e w1 ⟨rfl, hb1⟩
 have HB1 := Lib.hid hb1
 clear hb1
 go_wp2_with fail
 have hQ2 := HQ.out
 subst hQ2
 obtain ⟨V3, hV3⟩ : ∃ V3, (w1.alloc (.cells #[.bool false, .int .i64 7] 25)).alloc (.cells #[.int .i64 0, .int .i64 9, .int .i64 0, .slice (some ⟨w1.heap.size, 0, none⟩) 1 1, .slice none 0 0, .slice none 0 0] 62) = V3 := ⟨_, rfl⟩
 rw [hV3]
 have hb3 : Below w1.heap.size w1 V3 := by rw [← hV3]; exact ((Below.refl _ _).alloc (Nat.le_refl _) _).alloc (by simp) _
 have hc3 : V3.heap[w1.heap.size]? = some (.cells #[.bool false, .int .i64 7] 25 (0, 0)) := by rw [← hV3]; exact heap1_ w1 _ _
 have hx3 : V3.heap[w1.heap.size + 1]? = some (.cells #[.int .i64 0, .int .i64 9, .int .i64 0, .slice (some ⟨w1.heap.size, 0, none⟩) 1 1, .slice none 0 0, .slice none 0 0] 62 (0, 0)) := by rw [← hV3]; exact heap2_ w1 _ _
 have hv3 : Below V.heap.size V V3 := HB1.out.trans (hb3.mono HB1.out.size)
 clear hV3
 refine kn_region4 (W := W) (V := V3) (X2 := X2) (X3 := w1.heap.size + 1) (bc := w1.heap.size) ?_ ?_ _ _ _ _ _ _ _ _ _ _ _ _ _ _ _ _ _ _ _ _ _ _ _ _ _ _ _ _ _ _ _ _ _ _ _ _ _ _ _ _ _ _ _ _ _ _ _ _ _ _ ‹∀ (a : Act) (w : World), Code.wp Tryz.prog _ _ a w → _›
 · intro V2 h
   have hx := (h.block _ (heap_lt hx3)).trans hx3
   exact ⟨by simp [World.cell?, hx], by simp [World.cell?, hx], by simp [World.cell?, hx], by simp [World.cell?, hx], by simp [World.cell?, hx], by simp [World.cell?, hx]⟩
 · intro V2 ga gs gb gp h ha hs hg hp y0 y1 y3 y5 y6 y7 y8 y9 y10 y11 y12 y13 y14 y15 y16 y17 y18 y19 y20 y21 y22 y23 y24 y25 y26 y27 y28 y29 y30 y31 y32 y33 y34 y35 y36 y37 y38 y39 y40 y41 y42 y43 y44 y45 y46 y47 y48 y49 y50
   have h0 := hv3.trans (h.mono hv3.size)
   exact kn_tail5 (HB.out.trans (h0.mono HB.out.size)) ((h0.block _ (heap_lt H2.out)).trans H2.out) hp (HBODY.out.later h0) (kmain_in ((h.block _ (heap_lt hc3)).trans hc3) ha hs hg) _ _ _ _ _ _ _ _ _ _ _ _ _ _ _ _ _ _ _ _ _ _ _ _ _ _ _ _ _ _ _ _ _ _ _ _ _ _ _ _ _ _ _ _ _ _ _ _ _
theorem knows_any (W : World) : Calls Tryz.prog 6 #[] W (BoolBelow true W) := by
 have HVAR := Lib.hid (mkvar_any 0 W)
 go_enter Tryz.func6, Tryz.ntmps6
 obtain ⟨Q, hQ⟩ : ∃ Q, (bodyPost Tryz.prog Tryz.f6 (BoolBelow true W)) = Q := ⟨_, rfl⟩
 have HQ := Lib.hid hQ
 rw [hQ]
 clear hQ
 go_wp2_with fail
 refine HVAR.out.mono ?_
 rintro e w1 ⟨rfl, hb1⟩
 have HB1 := Lib.hid hb1
 clear hb1
 go_wp2_with fail
 have hQ2 := HQ.out
 subst hQ2
 obtain ⟨V3, hV3⟩ : ∃ V3, (w1.alloc (.cells #[.bool true, .int .i64 0] 25)).alloc (.cells #[.int .i64 2, .int .i64 4, .int .i64 1, .slice (some ⟨w1.heap.size, 0, none⟩) 1 1, .slice none 0 0, .slice none 0 0] 62) = V3 := ⟨_, rfl⟩
 rw [hV3]
 have hb3 : Below w1.heap.size w1 V3 := by rw [← hV3]; exact ((Below.refl _ _).alloc (Nat.le_refl _) _).alloc (by simp) _
 have hc3 : V3.heap[w1.heap.size]? = some (.cells #[.bool true, .int .i64 0] 25 (0, 0)) := by rw [← hV3]; exact heap1_ w1 _ _
 have hx3 : V3.heap[w1.heap.size + 1]? = some (.cells #[.int .i64 2, .int .i64 4, .int .i64 1, .slice (some ⟨w1.heap.size, 0, none⟩) 1 1, .slice none 0 0, .slice none 0 0] 62 (0, 0)) := by rw [← hV3]; exact heap2_ w1 _ _
 have hv3 : Below W.heap.size W V3 := HB1.out.trans (hb3.mono HB1.out.size)
 clear hV3
 refine kn_region2 (W := W) (V := V3) (X1 := w1.heap.size + 1) (bf := w1.heap.size) ?_ ?_ _ _ _ _ _ _ _ _ _ _ _ _ _ _ _ _ _ _ _ _ _ _ _ _ _ _ _ _ _ _ _ _ _ _ _ _ _ _ _ _ _ _ _ _ _ _ _ _ _ _ _ ‹∀ (a : Act) (w : World), Code.wp Tryz.prog _ _ a w → _›
 · intro V2 h
   have hx := (h.block _ (heap_lt hx3)).trans hx3
   exact ⟨by simp [World.cell?, hx], by simp [World.cell?, hx], by simp [World.cell?, hx], by simp [World.cell?, hx], by simp [World.cell?, hx], by simp [World.cell?, hx]⟩
 · intro V2 g3 g5 g8 h h3 h5 h8 y0 y1 y3 y4 y5 y6 y7 y8 y9 y10 y11 y12 y13 y14 y15 y16 y17 y18 y19 y20 y21 y22 y23 y24 y25 y26 y27 y28 y29 y30 y31 y32 y33 y34 y35 y36 y37 y38 y39 y40 y41 y42 y43 y44 y45 y46 y47 y48 y49 y50
   exact kn_tail3 (hv3.trans (h.mono hv3.size)) h8 (kbody_in ((h.block _ (heap_lt hc3)).trans hc3) h3 h5) _ _ _ _ _ _ _ _ _ _ _ _ _ _ _ _ _ _ _ _ _ _ _ _ _ _ _ _ _ _ _ _ _ _ _ _ _ _ _ _ _ _ _ _ _ _ _ _ _ _
end Go.Proofs.YtnobggabjpcbfaaGreat
namespace Go.Proofs.YtnobggabjpcbfaaGreat
open Go.RowKit Go.Maps
mutual
theorem szA_parts : ∀ t : Anf, szA t ≤ partsA t
 | .ret _ => by simp [szA, partsA]
 | .bind _ _ _ ats ks bl r => by
  have h1 := szL_parts bl
  have h2 := szA_parts r
  simp only [szA, partsA]
  omega
theorem szL_parts : ∀ l : List Anf, szL l ≤ partsLA l
 | [] => by simp [szL, partsLA]
 | c :: cs => by
  have h1 := szA_parts c
  have h2 := szL_parts cs
  simp only [szL, partsLA]
  omega
end
theorem fewN_ge : ∀ (l : List FFun) (n : Int), n ≤ fewN l n
 | [], n => by simp [fewN]
 | g :: gs, n => by
  unfold fewN
  split
  · have h1 := nodesA_ge g.body (700 - n) 1
    have h2 := fewN_ge gs (n + (1 + nodesA g.body (700 - n) 1))
    omega
  · omega
theorem fewN_all : ∀ (l : List FFun) (n : Int), fewN l n < 700 → (szFuns l : Int) + n ≤ fewN l n
 | [], n, _ => by simp [fewN, szFuns]
 | g :: gs, n, h => by
  unfold fewN at h ⊢
  split at h
  · rw [if_pos (by assumption)]
    have h1 := fewN_ge gs (n + (1 + nodesA g.body (700 - n) 1))
    have h2 := nodesA_all g.body (700 - n) 1 (by omega)
    have h3 := fewN_all gs _ h
    have h4 := szA_parts g.body
    simp only [szFuns]
    omega
  · omega
theorem few_small {p : FlatP} {inp : List Int} (h : fewF p inp = true) (hr : (∀ g ∈ p.funs, rngA g.body) ∧ rngA p.main) : SmallF p := by
 simp only [fewF, decide_eq_true_eq] at h
 obtain ⟨h, _⟩ := h
 have h1 := fewN_all p.funs _ h
 have h2 := fewN_ge p.funs (nodesA p.main 700 1)
 have h3 := nodesA_all p.main 700 1 (by omega)
 have h4 := szA_parts p.main
 exact ⟨by omega, hr.1, hr.2⟩
end Go.Proofs.YtnobggabjpcbfaaGreat
