/-
 1 texts of this seat in one: B6.
-/
import Derived.Test.YtnobggabjpcbfaaGreatQI33
import Derived.Test.YtnobggabjpcbfaaGreatQI1
set_option maxRecDepth 100000
set_option maxHeartbeats 16000000
set_option linter.unusedVariables false
set_option linter.unusedSimpArgs false
namespace Go.Proofs.YtnobggabjpcbfaaGreat
open Go.RowKit Go.Maps
noncomputable def knowsR2 : Code := match Tryz.f6.body with
 | some (.seq _ (.seq _ (.seq c _))) => c
 | _ => .skip
noncomputable def knowsT3 : Code := match Tryz.f6.body with
 | some (.seq _ (.seq _ (.seq _ c))) => c
 | _ => .skip
noncomputable def knowsR4 : Code := match Tryz.f6.body with
 | some (.seq _ (.seq _ (.seq _ (.seq _ (.seq c _))))) => c
 | _ => .skip
noncomputable def knowsT5 : Code := match Tryz.f6.body with
 | some (.seq _ (.seq _ (.seq _ (.seq _ (.seq _ c))))) => c
 | _ => .skip
open Go.Proofs.YtnobggabjpcbfaaGreatW.PrintWords Go.Proofs.YtnobggabjpcbfaaGreatW.PrintLast
theorem putSel_skip {b : Nat → Bool} {i : Nat} : ∀ {l : List (Nat × Tmp × Value)} {a : Act}, (l.all fun e => !(e.1 == i)) = true → putSel a (up b i) l = putSel a b l
 | [], a, _ => rfl
 | e :: l, a, h => by
  rw [List.all_cons, Bool.and_eq_true] at h
  have he : e.1 ≠ i := by simpa using h.1
  unfold putSel
  rw [up_ne he]
  exact putSel_skip h.2
inductive Dep (b : Nat → Bool) : List (Nat × Tmp × Value) → List (Nat × Tmp × Value) → Prop
 | nil : Dep b [] []
 | same {x : Nat × Tmp × Value} {l l' : List (Nat × Tmp × Value)} (h : Dep b l l') : Dep b (x :: l) (x :: l')
 | turn {i : Nat} {t : Tmp} {v v' : Value} {l l' : List (Nat × Tmp × Value)} (hi : b i = false) (h : Dep b l l') : Dep b ((i, t, v) :: l) ((i, t, v') :: l')
theorem putSel_dep {b : Nat → Bool} : ∀ {L L' : List (Nat × Tmp × Value)} {a : Act}, Dep b L L' → putSel a b L = putSel a b L'
 | _, _, a, .nil => rfl
 | _, _, a, .same h => by
  unfold putSel
  split
  · exact putSel_dep h
  · exact putSel_dep h
 | _, _, a, .turn hi h => by
  unfold putSel
  simp only [hi, Bool.false_eq_true, if_false]
  exact putSel_dep h
structure KF (V : World) (b : Nat → Bool) (L : List (Nat × Nat × Obj)) (w : World) : Prop where
 bel : Below V.heap.size V w
 at_ : ∀ x ∈ L, b x.1 = true → V.heap.size ≤ x.2.1 ∧ w.heap[x.2.1]? = some x.2.2
theorem heap_lt {w : World} {g : Nat} {o : Obj} (h : w.heap[g]? = some o) : g < w.heap.size := (Array.getElem?_eq_some_iff.1 h).1
section
variable {V w w' : World} {b : Nat → Bool} {L L' : List (Nat × Nat × Obj)} {i : Nat}
theorem KF.pass (h : KF V b L w) (hi : (L.all fun x => !(x.1 == i)) = true) : KF V (up b i) L w :=
 ⟨h.bel, fun x hx hb => by
  have : x.1 ≠ i := by simpa using List.all_eq_true.1 hi x hx
  exact h.at_ x hx (by rwa [up_ne this] at hb)⟩
theorem KF.grow (h : KF V b L w) (hw : Below w.heap.size w w') (hi : (L.map (·.1)).contains i = false) : KF V (up b i) L w' :=
 ⟨h.bel.trans (hw.mono h.bel.size), fun x hx hb => by
  have hne : x.1 ≠ i := fun e => by
   have : (L.map (·.1)).contains i = true := List.contains_iff_mem.2 (List.mem_map.2 ⟨x, hx, e⟩)
   rw [this] at hi; cases hi
  obtain ⟨h1, h2⟩ := h.at_ x hx (by rwa [up_ne hne] at hb)
  exact ⟨h1, (hw.block _ (heap_lt h2)).trans h2⟩⟩
theorem KF.made (h : KF V b L w) (i : Nat) {g : Nat} {o : Obj} (hw : Below w.heap.size w w') (hg : w.heap.size ≤ g) (ho : w'.heap[g]? = some o) (hL : ∀ x ∈ L', x = (i, g, o) ∨ (x.1 ≠ i ∧ (x ∈ L ∨ b x.1 = false))) : KF V (up b i) L' w' :=
 ⟨h.bel.trans (hw.mono h.bel.size), fun x hx hb => by
  rcases hL x hx with rfl | ⟨hne, hm | hf⟩
  · exact ⟨Nat.le_trans h.bel.size hg, ho⟩
  · obtain ⟨h1, h2⟩ := h.at_ x hm (by rwa [up_ne hne] at hb)
    exact ⟨h1, (hw.block _ (heap_lt h2)).trans h2⟩
  · rw [up_ne hne, hf] at hb; cases hb⟩
theorem KF.new (h : KF V b L w) (i : Nat) (o : Obj) (hL : ∀ x ∈ L', x = (i, w.heap.size, o) ∨ (x.1 ≠ i ∧ (x ∈ L ∨ b x.1 = false))) : KF V (up b i) L' (w.alloc o) :=
 h.made i ((Below.refl _ _).alloc (Nat.le_refl _) _) (Nat.le_refl _) (World.alloc_heap_new w o) hL
def set3 (w : World) (g : Nat) (c0 c1 c2 : Value) : World := ((w.setCell ⟨g, 0, none⟩ c0).setCell ⟨g, 1, none⟩ c1).setCell ⟨g, 2, none⟩ c2
theorem zero3 (h : KF V b L w) {i g : Nat} {c0 c1 c2 : Value} {t : TypeId} (hm : (i, g, Obj.cells #[c0, c1, c2] t (0, 0)) ∈ L) (hb : b i = true) : w.cell? ⟨g, 0, none⟩ = some c0 ∧ w.cell? ⟨g, 1, none⟩ = some c1 ∧ w.cell? ⟨g, 2, none⟩ = some c2 ∧ ∀ i, w.frozen? ⟨g, i, none⟩ = false := by
 obtain ⟨_, h2⟩ := h.at_ _ hm hb
 exact ⟨by simp [World.cell?, h2], by simp [World.cell?, h2], by simp [World.cell?, h2], fun i => by simp [World.frozen?, h2]⟩
theorem KF.set3 (h : KF V b L w) (d0 d1 d2 : Value) {i g j : Nat} {c0 c1 c2 : Value} {t : TypeId} (hm : (i, g, Obj.cells #[c0, c1, c2] t (0, 0)) ∈ L) (hb : b i = true) (hL : ∀ x ∈ L', (x.1 = i ∧ x.2.1 = g ∧ x.2.2 = Obj.cells #[d0, d1, d2] t (0, 0)) ∨ (x.1 ≠ j ∧ x ∈ L ∧ x.2.2 ≠ Obj.cells #[c0, c1, c2] t (0, 0) ∧ b x.1 = true)) : KF V (up b j) L' (set3 w g d0 d1 d2) := by
 obtain ⟨h1, h2⟩ := h.at_ _ hm hb
 refine ⟨((h.bel.setCell (p := ⟨g, 0, none⟩) h1 d0).setCell (p := ⟨g, 1, none⟩) h1 d1).setCell (p := ⟨g, 2, none⟩) h1 d2, fun x hx hbx => ?_⟩
 rcases hL x hx with ⟨_, e2, e3⟩ | ⟨hne, hm', hno, hbt⟩
 · rw [e2, e3]
   refine ⟨h1, ?_⟩
   unfold Go.Proofs.YtnobggabjpcbfaaGreat.set3
   rw [heap_set_self (heap_set_self (heap_set_self h2 0 _) 1 _) 2 _]; rfl
 · obtain ⟨g1, g2⟩ := h.at_ x hm' hbt
   have hng : x.2.1 ≠ g := fun e => by
    rw [e, h2] at g2
    exact hno (Option.some.inj g2).symm
   refine ⟨g1, ?_⟩
   unfold Go.Proofs.YtnobggabjpcbfaaGreat.set3
   rw [heap_set_ne hng, heap_set_ne hng, heap_set_ne hng]
   exact g2
def KI (V : World) (b : Nat → Bool) (L L' : List (Nat × Nat × Obj)) (l : Nat) (w : World) : Prop := (b l = false → KF V b L w) ∧ (b l = true → KF V b L' w)
theorem KI.start {l : Nat} (hb : Below V.heap.size V w) : KI V (fun _ => false) L L' l w := ⟨fun _ => ⟨hb, fun x _ h => by cases h⟩, fun h => by cases h⟩
theorem KI.step {l : Nat} (hl : b l = false) (hi : i ≠ l) (h : KF V (up b i) L w) : KI V (up b i) L L' l w := ⟨fun _ => h, fun h' => (by rw [up_ne (Ne.symm hi), hl] at h'; cases h')⟩
theorem KI.last {l : Nat} (h : KF V (up b l) L' w) : KI V (up b l) L L' l w := ⟨fun h' => (by rw [up_self] at h'; cases h'), fun _ => h⟩
end
theorem kn_region2 {W V : World} {X1 bf : Nat} (hS : ∀ V2, Below V.heap.size V V2 → V2.cell? ⟨X1, 0, none⟩ = some (.int .i64 2) ∧ V2.cell? ⟨X1, 1, none⟩ = some (.int .i64 4) ∧ V2.cell? ⟨X1, 2, none⟩ = some (.int .i64 1) ∧ V2.cell? ⟨X1, 3, none⟩ = some (.slice (some ⟨bf, 0, none⟩) 1 1) ∧ V2.cell? ⟨X1, 4, none⟩ = some (.slice none 0 0) ∧ V2.cell? ⟨X1, 5, none⟩ = some (.slice none 0 0))
 (hend : ∀ (V2 : World) (g3 g5 g8 : Nat), Below V.heap.size V V2 → V2.heap[g3]? = some (.cells #[.bool true, .int .i64 1, .bool true, .int .i64 2] 25) → V2.heap[g5]? = some (.cells #[.int .i64 2, .int .i64 4, .int .i64 1, .slice (some ⟨bf, 0, none⟩) 1 1, .slice none 0 0, .slice none 0 0, .int .i64 3, .int .i64 2, .int .i64 1, .slice (some ⟨g3, 0, none⟩) 2 2, .slice none 0 0, .slice none 0 0] 62) → V2.heap[g8]? = some (.cells #[.slice (some ⟨g5, 0, none⟩) 2 2, .bool true, .int .i64 3] 27) → ∀ (y0 y1 y3 y4 y5 y6 y7 y8 y9 y10 y11 y12 y13 y14 y15 y16 y17 y18 y19 y20 y21 y22 y23 y24 y25 y26 y27 y28 y29 y30 y31 y32 y33 y34 y35 y36 y37 y38 y39 y40 y41 y42 y43 y44 y45 y46 y47 y48 y49 y50 : Value), knowsT3.wp Tryz.prog (bodyPost Tryz.prog Tryz.f6 (BoolBelow true W)) { tmps := #[y0, y1, .pointer (some ⟨g8, 0, none⟩), y3, y4, y5, y6, y7, y8, y9, y10, y11, y12, y13, y14, y15, y16, y17, y18, y19, y20, y21, y22, y23, y24, y25, y26, y27, y28, y29, y30, y31, y32, y33, y34, y35, y36, y37, y38, y39, y40, y41, y42, y43, y44, y45, y46, y47, y48, y49, y50], defers := [] } V2) (u0 u2 u3 u4 u5 u6 u7 u8 u9 u10 u11 u12 u13 u14 u15 u16 u17 u18 u19 u20 u21 u22 u23 u24 u25 u26 u27 u28 u29 u30 u31 u32 u33 u34 u35 u36 u37 u38 u39 u40 u41 u42 u43 u44 u45 u46 u47 u48 u49 u50 : Value) :
 ∀ K : Act → World → Prop, (∀ a w, knowsT3.wp Tryz.prog (bodyPost Tryz.prog Tryz.f6 (BoolBelow true W)) a w → K a w) → knowsR2.wp Tryz.prog (Exit.then K (bodyPost Tryz.prog Tryz.f6 (BoolBelow true W))) { tmps := #[u0, .pointer (some ⟨X1, 0, none⟩), u2, u3, u4, u5, u6, u7, u8, u9, u10, u11, u12, u13, u14, u15, u16, u17, u18, u19, u20, u21, u22, u23, u24, u25, u26, u27, u28, u29, u30, u31, u32, u33, u34, u35, u36, u37, u38, u39, u40, u41, u42, u43, u44, u45, u46, u47, u48, u49, u50], defers := [] } V := by
 intro K hK0
 have HK0 := Lib.hid hK0
 have HEND := Lib.hid hend
 have HS := Lib.hid hS
 have D0 := Lib.hid (show Below V.heap.size V V.drew from (Below.refl _ _).drew)
 clear hK0 hend hS
 unfold knowsR2 Tryz.f6
 dsimp only
 refine start_ (n := 10) (S := fun w' => True) (ds := []) #[false, false, false, false, false, false, false, false, false, false] (by kernel_rfl) rfl rfl trivial (fun hHeld => ?_)
 clear hHeld
 refine inv_at (B := [0, 0, 2, 6, 14, 31, 30, 127, 0, 511]) [0, 1, 2, 3, 4, 5, 6, 7, 8, 9] (fun a0_ b a w' => ∃ g3 g5 g8, a = putSel a0_ b [(0, 10, .agg #[.int .i64 2, .int .i64 4, .int .i64 1, .slice (some ⟨bf, 0, none⟩) 1 1, .slice none 0 0, .slice none 0 0]), (1, 11, .agg #[.bool true, .int .i64 1]), (2, 12, .agg #[.bool true, .int .i64 2]), (3, 13, .slice (some ⟨g3, 0, none⟩) 2 2), (4, 14, .agg #[.int .i64 3, .int .i64 2, .int .i64 1, .slice (some ⟨g3, 0, none⟩) 2 2, .slice none 0 0, .slice none 0 0]), (5, 15, .slice (some ⟨g5, 0, none⟩) 2 2), (6, 16, .agg #[.bool true, .int .i64 3]), (7, 17, .agg #[.slice (some ⟨g5, 0, none⟩) 2 2, .bool true, .int .i64 3]), (8, 2, .pointer (some ⟨g8, 0, none⟩))] ∧ KI V b [(3, g3, (.cells #[.bool true, .int .i64 1, .bool true, .int .i64 2] 25)), (5, g5, (.cells #[.int .i64 2, .int .i64 4, .int .i64 1, .slice (some ⟨bf, 0, none⟩) 1 1, .slice none 0 0, .slice none 0 0, .int .i64 3, .int .i64 2, .int .i64 1, .slice (some ⟨g3, 0, none⟩) 2 2, .slice none 0 0, .slice none 0 0] 62)), (8, g8, (.cells #[.slice none 0 0, .bool false, .int .i64 0] 27))] [(3, g3, (.cells #[.bool true, .int .i64 1, .bool true, .int .i64 2] 25)), (5, g5, (.cells #[.int .i64 2, .int .i64 4, .int .i64 1, .slice (some ⟨bf, 0, none⟩) 1 1, .slice none 0 0, .slice none 0 0, .int .i64 3, .int .i64 2, .int .i64 1, .slice (some ⟨g3, 0, none⟩) 2 2, .slice none 0 0, .slice none 0 0] 62)), (8, g8, (.cells #[.slice (some ⟨g5, 0, none⟩) 2 2, .bool true, .int .i64 3] 27))] 9 w') rfl (by kernel_rfl) (by kernel_rfl) (by kernel_rfl) ?_ ?_ ?_
 · exact ⟨0, 0, 0, by simp only [putSel, Bool.false_eq_true, if_false], KI.start D0.out⟩
 · skip
   refine steps_cons ?_ ?_
   · rintro b a w' ⟨g3, g5, g8, ha, hI⟩ hb_ hon hoff
     refine ⟨_, rfl, fun K hK => ?_⟩
     have e1 : a.tmps[1]? = some (.pointer (some ⟨X1, 0, none⟩)) := by rw [ha]; exact (putSel_off rfl).trans rfl
     obtain ⟨z0, z1, z2, z3, z4, z5⟩ := HS.out w' (hI.1 (hoff 9 (by kernel_rfl))).bel
     have hL : b 9 = false := hoff 9 (by kernel_rfl)
     replace ha := Lib.hid ha
     have HI := Lib.hid hI
     clear hI
     refine value_ (w1 := w') (v := .agg #[.int .i64 2, .int .i64 4, .int .i64 1, .slice (some ⟨bf, 0, none⟩) 1 1, .slice none 0 0, .slice none 0 0]) (by rfl) rfl ?_ ?_
     · go_simp
       try rfl
     exact hK.out _ _ ⟨g3, g5, g8, (by rw [ha.out]; exact putSel_upk 0 hb_ rfl rfl rfl), KI.step hL (by decide) ((HI.out.1 hL).pass (by rfl))⟩
   refine steps_cons ?_ ?_
   · rintro b a w' ⟨g3, g5, g8, ha, hI⟩ hb_ hon hoff
     refine ⟨_, rfl, fun K hK => ?_⟩
     have hL : b 9 = false := hoff 9 (by kernel_rfl)
     replace ha := Lib.hid ha
     have HI := Lib.hid hI
     clear hI
     refine goes_ Tryz.func15 (by kernel_rfl) rfl #[.int .i64 1] (by rfl) rfl rfl (by first | (simp only [List.map_toArray, List.map_cons, List.map_nil, Act.eval, Array.getD_eq_getD_getElem?, Option.getD_some]; done) | (simp only [List.map_toArray, List.map_cons, List.map_nil, Act.eval, Array.getD_eq_getD_getElem?, Option.getD_some]; rfl)) ?_
     refine (mkvar_any 1 w').mono ?_
     rintro e w2 ⟨rfl, hb2⟩
     exact ⟨_, rfl, hK.out _ _ ⟨g3, g5, g8, (by rw [ha.out]; exact putSel_upk 1 hb_ rfl rfl rfl), KI.step hL (by decide) ((HI.out.1 hL).grow hb2 (by rfl))⟩⟩
   refine steps_cons ?_ ?_
   · rintro b a w' ⟨g3, g5, g8, ha, hI⟩ hb_ hon hoff
     refine ⟨_, rfl, fun K hK => ?_⟩
     have hL : b 9 = false := hoff 9 (by kernel_rfl)
     replace ha := Lib.hid ha
     have HI := Lib.hid hI
     clear hI
     refine goes_ Tryz.func15 (by kernel_rfl) rfl #[.int .i64 2] (by rfl) rfl rfl (by first | (simp only [List.map_toArray, List.map_cons, List.map_nil, Act.eval, Array.getD_eq_getD_getElem?, Option.getD_some]; done) | (simp only [List.map_toArray, List.map_cons, List.map_nil, Act.eval, Array.getD_eq_getD_getElem?, Option.getD_some]; rfl)) ?_
     refine (mkvar_any 2 w').mono ?_
     rintro e w2 ⟨rfl, hb2⟩
     exact ⟨_, rfl, hK.out _ _ ⟨g3, g5, g8, (by rw [ha.out]; exact putSel_upk 2 hb_ rfl rfl rfl), KI.step hL (by decide) ((HI.out.1 hL).grow hb2 (by rfl))⟩⟩
   refine steps_cons ?_ ?_
   · rintro b a w' ⟨g3, g5, g8, ha, hI⟩ hb_ hon hoff
     refine ⟨_, rfl, fun K hK => ?_⟩
     have e11 : a.tmps[11]? = some (.agg #[.bool true, .int .i64 1]) := by rw [ha]; exact putSel_on (e := (1, 11, .agg #[.bool true, .int .i64 1])) 1 rfl rfl (hon 1 (by kernel_rfl)) rfl
     have e12 : a.tmps[12]? = some (.agg #[.bool true, .int .i64 2]) := by rw [ha]; exact putSel_on (e := (2, 12, .agg #[.bool true, .int .i64 2])) 2 rfl rfl (hon 2 (by kernel_rfl)) rfl
     have o4 : b 4 = false := hoff 4 (by kernel_rfl)
     have o5 : b 5 = false := hoff 5 (by kernel_rfl)
     have hL : b 9 = false := hoff 9 (by kernel_rfl)
     replace ha := Lib.hid ha
     have HI := Lib.hid hI
     clear hI
     refine value_ (w1 := w'.alloc (.cells #[.bool true, .int .i64 1, .bool true, .int .i64 2] 25)) (v := .slice (some ⟨w'.heap.size, 0, none⟩) 2 2) (by rfl) rfl ?_ ?_
     · go_simp
       try rfl
     refine hK.out _ _ ⟨w'.heap.size, g5, g8, (by rw [ha.out, putSel_dep (L' := [(0, 10, .agg #[.int .i64 2, .int .i64 4, .int .i64 1, .slice (some ⟨bf, 0, none⟩) 1 1, .slice none 0 0, .slice none 0 0]), (1, 11, .agg #[.bool true, .int .i64 1]), (2, 12, .agg #[.bool true, .int .i64 2]), (3, 13, .slice (some ⟨g3, 0, none⟩) 2 2), (4, 14, .agg #[.int .i64 3, .int .i64 2, .int .i64 1, .slice (some ⟨w'.heap.size, 0, none⟩) 2 2, .slice none 0 0, .slice none 0 0]), (5, 15, .slice (some ⟨g5, 0, none⟩) 2 2), (6, 16, .agg #[.bool true, .int .i64 3]), (7, 17, .agg #[.slice (some ⟨g5, 0, none⟩) 2 2, .bool true, .int .i64 3]), (8, 2, .pointer (some ⟨g8, 0, none⟩))]) (.same (.same (.same (.same (.turn o4 (.same (.same (.same (.same (.nil))))))))))]; exact putSel_upk 3 hb_ rfl rfl rfl), KI.step hL (by decide) ((HI.out.1 hL).new 3 _ ?_)⟩
     intro x hx
     simp only [List.mem_cons, List.not_mem_nil, or_false] at hx
     rcases hx with rfl | rfl | rfl
     · exact .inl rfl
     · exact .inr ⟨by simp, .inr o5⟩
     · exact .inr ⟨by simp, .inl (by simp)⟩
   refine steps_cons ?_ ?_
   · rintro b a w' ⟨g3, g5, g8, ha, hI⟩ hb_ hon hoff
     refine ⟨_, rfl, fun K hK => ?_⟩
     have e13 : a.tmps[13]? = some (.slice (some ⟨g3, 0, none⟩) 2 2) := by rw [ha]; exact putSel_on (e := (3, 13, .slice (some ⟨g3, 0, none⟩) 2 2)) 3 rfl rfl (hon 3 (by kernel_rfl)) rfl
     have hL : b 9 = false := hoff 9 (by kernel_rfl)
     replace ha := Lib.hid ha
     have HI := Lib.hid hI
     clear hI
     refine goes_ Tryz.func16 (by kernel_rfl) rfl #[.int .i64 3, .int .i64 1, .slice (some ⟨g3, 0, none⟩) 2 2] (by rfl) rfl rfl (by first | (simp only [List.map_toArray, List.map_cons, List.map_nil, Act.eval, Array.getD_eq_getD_getElem?, Option.getD_some, e13]; done) | (simp only [List.map_toArray, List.map_cons, List.map_nil, Act.eval, Array.getD_eq_getD_getElem?, Option.getD_some, e13]; rfl)) ?_
     refine (mkbind_any 3 1 _ 2 2 w').mono ?_
     rintro e w2 ⟨rfl, hb2⟩
     exact ⟨_, rfl, hK.out _ _ ⟨g3, g5, g8, (by rw [ha.out]; exact putSel_upk 4 hb_ rfl rfl rfl), KI.step hL (by decide) ((HI.out.1 hL).grow hb2 (by rfl))⟩⟩
   refine steps_cons ?_ ?_
   · rintro b a w' ⟨g3, g5, g8, ha, hI⟩ hb_ hon hoff
     refine ⟨_, rfl, fun K hK => ?_⟩
     have e10 : a.tmps[10]? = some (.agg #[.int .i64 2, .int .i64 4, .int .i64 1, .slice (some ⟨bf, 0, none⟩) 1 1, .slice none 0 0, .slice none 0 0]) := by rw [ha]; exact putSel_on (e := (0, 10, .agg #[.int .i64 2, .int .i64 4, .int .i64 1, .slice (some ⟨bf, 0, none⟩) 1 1, .slice none 0 0, .slice none 0 0])) 0 rfl rfl (hon 0 (by kernel_rfl)) rfl
     have e14 : a.tmps[14]? = some (.agg #[.int .i64 3, .int .i64 2, .int .i64 1, .slice (some ⟨g3, 0, none⟩) 2 2, .slice none 0 0, .slice none 0 0]) := by rw [ha]; exact putSel_on (e := (4, 14, .agg #[.int .i64 3, .int .i64 2, .int .i64 1, .slice (some ⟨g3, 0, none⟩) 2 2, .slice none 0 0, .slice none 0 0])) 4 rfl rfl (hon 4 (by kernel_rfl)) rfl
     have o7 : b 7 = false := hoff 7 (by kernel_rfl)
     have hL : b 9 = false := hoff 9 (by kernel_rfl)
     replace ha := Lib.hid ha
     have HI := Lib.hid hI
     clear hI
     refine value_ (w1 := w'.alloc (.cells #[.int .i64 2, .int .i64 4, .int .i64 1, .slice (some ⟨bf, 0, none⟩) 1 1, .slice none 0 0, .slice none 0 0, .int .i64 3, .int .i64 2, .int .i64 1, .slice (some ⟨g3, 0, none⟩) 2 2, .slice none 0 0, .slice none 0 0] 62)) (v := .slice (some ⟨w'.heap.size, 0, none⟩) 2 2) (by rfl) rfl ?_ ?_
     · go_simp
       try rfl
     refine hK.out _ _ ⟨g3, w'.heap.size, g8, (by rw [ha.out, putSel_dep (L' := [(0, 10, .agg #[.int .i64 2, .int .i64 4, .int .i64 1, .slice (some ⟨bf, 0, none⟩) 1 1, .slice none 0 0, .slice none 0 0]), (1, 11, .agg #[.bool true, .int .i64 1]), (2, 12, .agg #[.bool true, .int .i64 2]), (3, 13, .slice (some ⟨g3, 0, none⟩) 2 2), (4, 14, .agg #[.int .i64 3, .int .i64 2, .int .i64 1, .slice (some ⟨g3, 0, none⟩) 2 2, .slice none 0 0, .slice none 0 0]), (5, 15, .slice (some ⟨g5, 0, none⟩) 2 2), (6, 16, .agg #[.bool true, .int .i64 3]), (7, 17, .agg #[.slice (some ⟨w'.heap.size, 0, none⟩) 2 2, .bool true, .int .i64 3]), (8, 2, .pointer (some ⟨g8, 0, none⟩))]) (.same (.same (.same (.same (.same (.same (.same (.turn o7 (.same (.nil))))))))))]; exact putSel_upk 5 hb_ rfl rfl rfl), KI.step hL (by decide) ((HI.out.1 hL).new 5 _ ?_)⟩
     intro x hx
     simp only [List.mem_cons, List.not_mem_nil, or_false] at hx
     rcases hx with rfl | rfl | rfl
     · exact .inr ⟨by simp, .inl (by simp)⟩
     · exact .inl rfl
     · exact .inr ⟨by simp, .inl (by simp)⟩
   refine steps_cons ?_ ?_
   · rintro b a w' ⟨g3, g5, g8, ha, hI⟩ hb_ hon hoff
     refine ⟨_, rfl, fun K hK => ?_⟩
     have hL : b 9 = false := hoff 9 (by kernel_rfl)
     replace ha := Lib.hid ha
     have HI := Lib.hid hI
     clear hI
     refine goes_ Tryz.func15 (by kernel_rfl) rfl #[.int .i64 3] (by rfl) rfl rfl (by first | (simp only [List.map_toArray, List.map_cons, List.map_nil, Act.eval, Array.getD_eq_getD_getElem?, Option.getD_some]; done) | (simp only [List.map_toArray, List.map_cons, List.map_nil, Act.eval, Array.getD_eq_getD_getElem?, Option.getD_some]; rfl)) ?_
     refine (mkvar_any 3 w').mono ?_
     rintro e w2 ⟨rfl, hb2⟩
     exact ⟨_, rfl, hK.out _ _ ⟨g3, g5, g8, (by rw [ha.out]; exact putSel_upk 6 hb_ rfl rfl rfl), KI.step hL (by decide) ((HI.out.1 hL).grow hb2 (by rfl))⟩⟩
   refine steps_cons ?_ ?_
   · rintro b a w' ⟨g3, g5, g8, ha, hI⟩ hb_ hon hoff
     refine ⟨_, rfl, fun K hK => ?_⟩
     have e15 : a.tmps[15]? = some (.slice (some ⟨g5, 0, none⟩) 2 2) := by rw [ha]; exact putSel_on (e := (5, 15, .slice (some ⟨g5, 0, none⟩) 2 2)) 5 rfl rfl (hon 5 (by kernel_rfl)) rfl
     have e16 : a.tmps[16]? = some (.agg #[.bool true, .int .i64 3]) := by rw [ha]; exact putSel_on (e := (6, 16, .agg #[.bool true, .int .i64 3])) 6 rfl rfl (hon 6 (by kernel_rfl)) rfl
     have hL : b 9 = false := hoff 9 (by kernel_rfl)
     replace ha := Lib.hid ha
     have HI := Lib.hid hI
     clear hI
     refine value_ (w1 := w') (v := .agg #[.slice (some ⟨g5, 0, none⟩) 2 2, .bool true, .int .i64 3]) (by rfl) rfl ?_ ?_
     · go_simp
       try rfl
     exact hK.out _ _ ⟨g3, g5, g8, (by rw [ha.out]; exact putSel_upk 7 hb_ rfl rfl rfl), KI.step hL (by decide) ((HI.out.1 hL).pass (by rfl))⟩
   refine steps_cons ?_ ?_
   · rintro b a w' ⟨g3, g5, g8, ha, hI⟩ hb_ hon hoff
     refine ⟨_, rfl, fun K hK => ?_⟩
     have hL : b 9 = false := hoff 9 (by kernel_rfl)
     replace ha := Lib.hid ha
     have HI := Lib.hid hI
     clear hI
     refine value_ (w1 := w'.alloc (.cells #[.slice none 0 0, .bool false, .int .i64 0] 27)) (v := .pointer (some ⟨w'.heap.size, 0, none⟩)) (by rfl) rfl ?_ ?_
     · go_simp
       try rfl
     refine hK.out _ _ ⟨g3, g5, w'.heap.size, (by rw [ha.out, putSel_dep (L' := [(0, 10, .agg #[.int .i64 2, .int .i64 4, .int .i64 1, .slice (some ⟨bf, 0, none⟩) 1 1, .slice none 0 0, .slice none 0 0]), (1, 11, .agg #[.bool true, .int .i64 1]), (2, 12, .agg #[.bool true, .int .i64 2]), (3, 13, .slice (some ⟨g3, 0, none⟩) 2 2), (4, 14, .agg #[.int .i64 3, .int .i64 2, .int .i64 1, .slice (some ⟨g3, 0, none⟩) 2 2, .slice none 0 0, .slice none 0 0]), (5, 15, .slice (some ⟨g5, 0, none⟩) 2 2), (6, 16, .agg #[.bool true, .int .i64 3]), (7, 17, .agg #[.slice (some ⟨g5, 0, none⟩) 2 2, .bool true, .int .i64 3]), (8, 2, .pointer (some ⟨g8, 0, none⟩))]) (.same (.same (.same (.same (.same (.same (.same (.same (.same (.nil))))))))))]; exact putSel_upk 8 hb_ rfl rfl rfl), KI.step hL (by decide) ((HI.out.1 hL).new 8 _ ?_)⟩
     intro x hx
     simp only [List.mem_cons, List.not_mem_nil, or_false] at hx
     rcases hx with rfl | rfl | rfl
     · exact .inr ⟨by simp, .inl (by simp)⟩
     · exact .inr ⟨by simp, .inl (by simp)⟩
     · exact .inl rfl
   refine steps_cons ?_ ?_
   · rintro b a w' ⟨g3, g5, g8, ha, hI⟩ hb_ hon hoff
     refine ⟨_, rfl, fun K hK => ?_⟩
     have e17 : a.tmps[17]? = some (.agg #[.slice (some ⟨g5, 0, none⟩) 2 2, .bool true, .int .i64 3]) := by rw [ha]; exact putSel_on (e := (7, 17, .agg #[.slice (some ⟨g5, 0, none⟩) 2 2, .bool true, .int .i64 3])) 7 rfl rfl (hon 7 (by kernel_rfl)) rfl
     have e2 : a.tmps[2]? = some (.pointer (some ⟨g8, 0, none⟩)) := by rw [ha]; exact putSel_on (e := (8, 2, .pointer (some ⟨g8, 0, none⟩))) 8 rfl rfl (hon 8 (by kernel_rfl)) rfl
     have q3 := hon 3 (by kernel_rfl)
     have q5 := hon 5 (by kernel_rfl)
     have q8 := hon 8 (by kernel_rfl)
     replace ha := Lib.hid ha
     have HI := Lib.hid hI
     clear hI
     obtain ⟨y0, y1, y2, y3⟩ := zero3 (HI.out.1 hb_) (i := 8) (g := g8) (c0 := .slice none 0 0) (c1 := .bool false) (c2 := .int .i64 0) (t := 27) (by simp) q8
     refine skip_ (w1 := set3 w' g8 (.slice (some ⟨g5, 0, none⟩) 2 2) (.bool true) (.int .i64 3)) (by rfl) rfl ?_ ?_
     · unfold set3
       go_simp
       try rfl
     refine hK.out _ _ ⟨g3, g5, g8, (by rw [ha.out]; exact (putSel_skip rfl).symm), KI.last ((HI.out.1 hb_).set3 _ _ _ (i := 8) (g := g8) (c0 := .slice none 0 0) (c1 := .bool false) (c2 := .int .i64 0) (t := 27) (by simp) q8 ?_)⟩
     intro x hx
     simp only [List.mem_cons, List.not_mem_nil, or_false] at hx
     rcases hx with rfl | rfl | rfl
     · exact .inr ⟨by simp, by simp, by simp, q3⟩
     · exact .inr ⟨by simp, by simp, by simp, q5⟩
     · exact .inl ⟨rfl, rfl, rfl⟩
   exact steps_nil
 rintro b a w' hall ⟨g3, g5, g8, ha, hI⟩
 have hl : ∀ j, j ≤ 9 → b j = true := fun j hj => hall j (by
  have : j = 0 ∨ j = 1 ∨ j = 2 ∨ j = 3 ∨ j = 4 ∨ j = 5 ∨ j = 6 ∨ j = 7 ∨ j = 8 ∨ j = 9 := by omega
  rcases this with rfl | rfl | rfl | rfl | rfl | rfl | rfl | rfl | rfl | rfl <;> rfl)
 have b0 := hl 0 (by decide)
 have b1 := hl 1 (by decide)
 have b2 := hl 2 (by decide)
 have b3 := hl 3 (by decide)
 have b4 := hl 4 (by decide)
 have b5 := hl 5 (by decide)
 have b6 := hl 6 (by decide)
 have b7 := hl 7 (by decide)
 have b8 := hl 8 (by decide)
 have b9 := hl 9 (by decide)
 have hF := hI.2 b9
 subst ha
 simp only [putSel, b0, b1, b2, b3, b4, b5, b6, b7, b8, if_true, Act.put, List.setIfInBounds_toArray, List.set_cons_zero, List.set_cons_succ, Exit.then]
 exact HK0.out _ _ (HEND.out _ g3 g5 g8 hF.bel (hF.at_ (3, g3, (.cells #[.bool true, .int .i64 1, .bool true, .int .i64 2] 25)) (by simp) b3).2 (hF.at_ (5, g5, (.cells #[.int .i64 2, .int .i64 4, .int .i64 1, .slice (some ⟨bf, 0, none⟩) 1 1, .slice none 0 0, .slice none 0 0, .int .i64 3, .int .i64 2, .int .i64 1, .slice (some ⟨g3, 0, none⟩) 2 2, .slice none 0 0, .slice none 0 0] 62)) (by simp) b5).2 (hF.at_ (8, g8, (.cells #[.slice (some ⟨g5, 0, none⟩) 2 2, .bool true, .int .i64 3] 27)) (by simp) b8).2 _ _ _ _ _ _ _ _ _ _ _ _ _ _ _ _ _ _ _ _ _ _ _ _ _ _ _ _ _ _ _ _ _ _ _ _ _ _ _ _ _ _ _ _ _ _ _ _ _ _)
theorem kn_region4 {W V : World} {X2 X3 bc : Nat} (hS : ∀ V2, Below V.heap.size V V2 → V2.cell? ⟨X3, 0, none⟩ = some (.int .i64 0) ∧ V2.cell? ⟨X3, 1, none⟩ = some (.int .i64 9) ∧ V2.cell? ⟨X3, 2, none⟩ = some (.int .i64 0) ∧ V2.cell? ⟨X3, 3, none⟩ = some (.slice (some ⟨bc, 0, none⟩) 1 1) ∧ V2.cell? ⟨X3, 4, none⟩ = some (.slice none 0 0) ∧ V2.cell? ⟨X3, 5, none⟩ = some (.slice none 0 0))
 (hend : ∀ (V2 : World) (ga gs gb gp : Nat), Below V.heap.size V V2 → V2.heap[ga]? = some (.cells #[.bool true, .int .i64 0, .bool false, .int .i64 5] 25) → V2.heap[gs]? = some (.cells #[.bool true, .int .i64 1] 25) → V2.heap[gb]? = some (.cells #[.int .i64 0, .int .i64 9, .int .i64 0, .slice (some ⟨bc, 0, none⟩) 1 1, .slice none 0 0, .slice none 0 0, .int .i64 1, .int .i64 6, .int .i64 0, .slice (some ⟨ga, 0, none⟩) 2 2, .slice none 0 0, .slice none 0 0, .int .i64 2, .int .i64 2, .int .i64 13, .slice (some ⟨gs, 0, none⟩) 1 1, .slice none 0 0, .slice none 0 0] 62) → V2.heap[gp]? = some (.cells #[.slice (some ⟨gb, 0, none⟩) 3 3, .bool false, .int .i64 0] 27) → ∀ (y0 y1 y3 y5 y6 y7 y8 y9 y10 y11 y12 y13 y14 y15 y16 y17 y18 y19 y20 y21 y22 y23 y24 y25 y26 y27 y28 y29 y30 y31 y32 y33 y34 y35 y36 y37 y38 y39 y40 y41 y42 y43 y44 y45 y46 y47 y48 y49 y50 : Value), knowsT5.wp Tryz.prog (bodyPost Tryz.prog Tryz.f6 (BoolBelow true W)) { tmps := #[y0, y1, .pointer (some ⟨X2, 0, none⟩), y3, .pointer (some ⟨gp, 0, none⟩), y5, y6, y7, y8, y9, y10, y11, y12, y13, y14, y15, y16, y17, y18, y19, y20, y21, y22, y23, y24, y25, y26, y27, y28, y29, y30, y31, y32, y33, y34, y35, y36, y37, y38, y39, y40, y41, y42, y43, y44, y45, y46, y47, y48, y49, y50], defers := [] } V2) (u0 u1 u4 u5 u6 u7 u8 u9 u10 u11 u12 u13 u14 u15 u16 u17 u18 u19 u20 u21 u22 u23 u24 u25 u26 u27 u28 u29 u30 u31 u32 u33 u34 u35 u36 u37 u38 u39 u40 u41 u42 u43 u44 u45 u46 u47 u48 u49 u50 : Value) :
 ∀ K : Act → World → Prop, (∀ a w, knowsT5.wp Tryz.prog (bodyPost Tryz.prog Tryz.f6 (BoolBelow true W)) a w → K a w) → knowsR4.wp Tryz.prog (Exit.then K (bodyPost Tryz.prog Tryz.f6 (BoolBelow true W))) { tmps := #[u0, u1, .pointer (some ⟨X2, 0, none⟩), .pointer (some ⟨X3, 0, none⟩), u4, u5, u6, u7, u8, u9, u10, u11, u12, u13, u14, u15, u16, u17, u18, u19, u20, u21, u22, u23, u24, u25, u26, u27, u28, u29, u30, u31, u32, u33, u34, u35, u36, u37, u38, u39, u40, u41, u42, u43, u44, u45, u46, u47, u48, u49, u50], defers := [] } V := by
 intro K hK0
 have HK0 := Lib.hid hK0
 have HEND := Lib.hid hend
 have HS := Lib.hid hS
 have D0 := Lib.hid (show Below V.heap.size V V.drew from (Below.refl _ _).drew)
 clear hK0 hend hS
 unfold knowsR4 Tryz.f6
 dsimp only
 refine start_ (n := 11) (S := fun w' => True) (ds := []) #[false, false, false, false, false, false, false, false, false, false, false] (by kernel_rfl) rfl rfl trivial (fun hHeld => ?_)
 clear hHeld
 refine inv_at (B := [0, 0, 2, 6, 14, 30, 62, 127, 255, 0, 1023]) [0, 1, 2, 3, 4, 5, 6, 7, 8, 9, 10] (fun a0_ b a w' => ∃ ga gs gb gp, a = putSel a0_ b [(0, 22, .agg #[.int .i64 0, .int .i64 9, .int .i64 0, .slice (some ⟨bc, 0, none⟩) 1 1, .slice none 0 0, .slice none 0 0]), (1, 23, .agg #[.bool true, .int .i64 0]), (2, 24, .agg #[.bool false, .int .i64 5]), (3, 25, .agg #[.int .i64 1, .int .i64 6, .int .i64 0, .slice (some ⟨ga, 0, none⟩) 2 2, .slice none 0 0, .slice none 0 0]), (4, 26, .agg #[.bool true, .int .i64 1]), (5, 27, .slice (some ⟨gs, 0, none⟩) 1 1), (6, 28, .agg #[.int .i64 2, .int .i64 2, .int .i64 13, .slice (some ⟨gs, 0, none⟩) 1 1, .slice none 0 0, .slice none 0 0]), (7, 29, .slice (some ⟨gb, 0, none⟩) 3 3), (8, 30, .agg #[.slice (some ⟨gb, 0, none⟩) 3 3, .bool false, .int .i64 0]), (9, 4, .pointer (some ⟨gp, 0, none⟩))] ∧ KI V b [(3, ga, (.cells #[.bool true, .int .i64 0, .bool false, .int .i64 5] 25)), (5, gs, (.cells #[.bool true, .int .i64 1] 25)), (7, gb, (.cells #[.int .i64 0, .int .i64 9, .int .i64 0, .slice (some ⟨bc, 0, none⟩) 1 1, .slice none 0 0, .slice none 0 0, .int .i64 1, .int .i64 6, .int .i64 0, .slice (some ⟨ga, 0, none⟩) 2 2, .slice none 0 0, .slice none 0 0, .int .i64 2, .int .i64 2, .int .i64 13, .slice (some ⟨gs, 0, none⟩) 1 1, .slice none 0 0, .slice none 0 0] 62)), (9, gp, (.cells #[.slice none 0 0, .bool false, .int .i64 0] 27))] [(3, ga, (.cells #[.bool true, .int .i64 0, .bool false, .int .i64 5] 25)), (5, gs, (.cells #[.bool true, .int .i64 1] 25)), (7, gb, (.cells #[.int .i64 0, .int .i64 9, .int .i64 0, .slice (some ⟨bc, 0, none⟩) 1 1, .slice none 0 0, .slice none 0 0, .int .i64 1, .int .i64 6, .int .i64 0, .slice (some ⟨ga, 0, none⟩) 2 2, .slice none 0 0, .slice none 0 0, .int .i64 2, .int .i64 2, .int .i64 13, .slice (some ⟨gs, 0, none⟩) 1 1, .slice none 0 0, .slice none 0 0] 62)), (9, gp, (.cells #[.slice (some ⟨gb, 0, none⟩) 3 3, .bool false, .int .i64 0] 27))] 10 w') rfl (by kernel_rfl) (by kernel_rfl) (by kernel_rfl) ?_ ?_ ?_
 · exact ⟨0, 0, 0, 0, by simp only [putSel, Bool.false_eq_true, if_false], KI.start D0.out⟩
 · skip
   refine steps_cons ?_ ?_
   · rintro b a w' ⟨ga, gs, gb, gp, ha, hI⟩ hb_ hon hoff
     refine ⟨_, rfl, fun K hK => ?_⟩
     have e3 : a.tmps[3]? = some (.pointer (some ⟨X3, 0, none⟩)) := by rw [ha]; exact (putSel_off rfl).trans rfl
     obtain ⟨z0, z1, z2, z3, z4, z5⟩ := HS.out w' (hI.1 (hoff 10 (by kernel_rfl))).bel
     have hL : b 10 = false := hoff 10 (by kernel_rfl)
     replace ha := Lib.hid ha
     have HI := Lib.hid hI
     clear hI
     refine value_ (w1 := w') (v := .agg #[.int .i64 0, .int .i64 9, .int .i64 0, .slice (some ⟨bc, 0, none⟩) 1 1, .slice none 0 0, .slice none 0 0]) (by rfl) rfl ?_ ?_
     · go_simp
       try rfl
     exact hK.out _ _ ⟨ga, gs, gb, gp, (by rw [ha.out]; exact putSel_upk 0 hb_ rfl rfl rfl), KI.step hL (by decide) ((HI.out.1 hL).pass (by rfl))⟩
   refine steps_cons ?_ ?_
   · rintro b a w' ⟨ga, gs, gb, gp, ha, hI⟩ hb_ hon hoff
     refine ⟨_, rfl, fun K hK => ?_⟩
     have hL : b 10 = false := hoff 10 (by kernel_rfl)
     replace ha := Lib.hid ha
     have HI := Lib.hid hI
     clear hI
     refine goes_ Tryz.func15 (by kernel_rfl) rfl #[.int .i64 0] (by rfl) rfl rfl (by first | (simp only [List.map_toArray, List.map_cons, List.map_nil, Act.eval, Array.getD_eq_getD_getElem?, Option.getD_some]; done) | (simp only [List.map_toArray, List.map_cons, List.map_nil, Act.eval, Array.getD_eq_getD_getElem?, Option.getD_some]; rfl)) ?_
     refine (mkvar_any 0 w').mono ?_
     rintro e w2 ⟨rfl, hb2⟩
     exact ⟨_, rfl, hK.out _ _ ⟨ga, gs, gb, gp, (by rw [ha.out]; exact putSel_upk 1 hb_ rfl rfl rfl), KI.step hL (by decide) ((HI.out.1 hL).grow hb2 (by rfl))⟩⟩
   refine steps_cons ?_ ?_
   · rintro b a w' ⟨ga, gs, gb, gp, ha, hI⟩ hb_ hon hoff
     refine ⟨_, rfl, fun K hK => ?_⟩
     have hL : b 10 = false := hoff 10 (by kernel_rfl)
     replace ha := Lib.hid ha
     have HI := Lib.hid hI
     clear hI
     refine goes_ Tryz.func17 (by kernel_rfl) rfl #[.int .i64 5] (by rfl) rfl rfl (by first | (simp only [List.map_toArray, List.map_cons, List.map_nil, Act.eval, Array.getD_eq_getD_getElem?, Option.getD_some]; done) | (simp only [List.map_toArray, List.map_cons, List.map_nil, Act.eval, Array.getD_eq_getD_getElem?, Option.getD_some]; rfl)) ?_
     refine (mkint_any 5 w').mono ?_
     rintro e w2 ⟨rfl, hb2⟩
     exact ⟨_, rfl, hK.out _ _ ⟨ga, gs, gb, gp, (by rw [ha.out]; exact putSel_upk 2 hb_ rfl rfl rfl), KI.step hL (by decide) ((HI.out.1 hL).grow hb2 (by rfl))⟩⟩
   refine steps_cons ?_ ?_
   · rintro b a w' ⟨ga, gs, gb, gp, ha, hI⟩ hb_ hon hoff
     refine ⟨_, rfl, fun K hK => ?_⟩
     have e23 : a.tmps[23]? = some (.agg #[.bool true, .int .i64 0]) := by rw [ha]; exact putSel_on (e := (1, 23, .agg #[.bool true, .int .i64 0])) 1 rfl rfl (hon 1 (by kernel_rfl)) rfl
     have e24 : a.tmps[24]? = some (.agg #[.bool false, .int .i64 5]) := by rw [ha]; exact putSel_on (e := (2, 24, .agg #[.bool false, .int .i64 5])) 2 rfl rfl (hon 2 (by kernel_rfl)) rfl
     have o7 : b 7 = false := hoff 7 (by kernel_rfl)
     have hL : b 10 = false := hoff 10 (by kernel_rfl)
     replace ha := Lib.hid ha
     have HI := Lib.hid hI
     clear hI
     refine goes_ Tryz.func18 (by kernel_rfl) rfl #[.int .i64 1, .agg #[.bool true, .int .i64 0], .agg #[.bool false, .int .i64 5]] (by rfl) rfl rfl (by first | (simp only [List.map_toArray, List.map_cons, List.map_nil, Act.eval, Array.getD_eq_getD_getElem?, Option.getD_some, e23, e24]; done) | (simp only [List.map_toArray, List.map_cons, List.map_nil, Act.eval, Array.getD_eq_getD_getElem?, Option.getD_some, e23, e24]; rfl)) ?_
     refine (mkapp_any 1 true false 0 5 w').mono ?_
     rintro e w2 ⟨gn, rfl, hg1, hg2, hb2⟩
     refine ⟨_, rfl, hK.out _ _ ⟨gn, gs, gb, gp, (by rw [ha.out, putSel_dep (L' := [(0, 22, .agg #[.int .i64 0, .int .i64 9, .int .i64 0, .slice (some ⟨bc, 0, none⟩) 1 1, .slice none 0 0, .slice none 0 0]), (1, 23, .agg #[.bool true, .int .i64 0]), (2, 24, .agg #[.bool false, .int .i64 5]), (3, 25, .agg #[.int .i64 1, .int .i64 6, .int .i64 0, .slice (some ⟨ga, 0, none⟩) 2 2, .slice none 0 0, .slice none 0 0]), (4, 26, .agg #[.bool true, .int .i64 1]), (5, 27, .slice (some ⟨gs, 0, none⟩) 1 1), (6, 28, .agg #[.int .i64 2, .int .i64 2, .int .i64 13, .slice (some ⟨gs, 0, none⟩) 1 1, .slice none 0 0, .slice none 0 0]), (7, 29, .slice (some ⟨gb, 0, none⟩) 3 3), (8, 30, .agg #[.slice (some ⟨gb, 0, none⟩) 3 3, .bool false, .int .i64 0]), (9, 4, .pointer (some ⟨gp, 0, none⟩))]) (.same (.same (.same (.same (.same (.same (.same (.same (.same (.same (.nil)))))))))))]; exact putSel_upk 3 hb_ rfl rfl rfl), KI.step hL (by decide) ((HI.out.1 hL).made 3 hb2 hg1 hg2 ?_)⟩⟩
     intro x hx
     simp only [List.mem_cons, List.not_mem_nil, or_false] at hx
     rcases hx with rfl | rfl | rfl | rfl
     · exact .inl rfl
     · exact .inr ⟨by simp, .inl (by simp)⟩
     · exact .inr ⟨by simp, .inr o7⟩
     · exact .inr ⟨by simp, .inl (by simp)⟩
   refine steps_cons ?_ ?_
   · rintro b a w' ⟨ga, gs, gb, gp, ha, hI⟩ hb_ hon hoff
     refine ⟨_, rfl, fun K hK => ?_⟩
     have hL : b 10 = false := hoff 10 (by kernel_rfl)
     replace ha := Lib.hid ha
     have HI := Lib.hid hI
     clear hI
     refine goes_ Tryz.func15 (by kernel_rfl) rfl #[.int .i64 1] (by rfl) rfl rfl (by first | (simp only [List.map_toArray, List.map_cons, List.map_nil, Act.eval, Array.getD_eq_getD_getElem?, Option.getD_some]; done) | (simp only [List.map_toArray, List.map_cons, List.map_nil, Act.eval, Array.getD_eq_getD_getElem?, Option.getD_some]; rfl)) ?_
     refine (mkvar_any 1 w').mono ?_
     rintro e w2 ⟨rfl, hb2⟩
     exact ⟨_, rfl, hK.out _ _ ⟨ga, gs, gb, gp, (by rw [ha.out]; exact putSel_upk 4 hb_ rfl rfl rfl), KI.step hL (by decide) ((HI.out.1 hL).grow hb2 (by rfl))⟩⟩
   refine steps_cons ?_ ?_
   · rintro b a w' ⟨ga, gs, gb, gp, ha, hI⟩ hb_ hon hoff
     refine ⟨_, rfl, fun K hK => ?_⟩
     have e26 : a.tmps[26]? = some (.agg #[.bool true, .int .i64 1]) := by rw [ha]; exact putSel_on (e := (4, 26, .agg #[.bool true, .int .i64 1])) 4 rfl rfl (hon 4 (by kernel_rfl)) rfl
     have o6 : b 6 = false := hoff 6 (by kernel_rfl)
     have o7 : b 7 = false := hoff 7 (by kernel_rfl)
     have hL : b 10 = false := hoff 10 (by kernel_rfl)
     replace ha := Lib.hid ha
     have HI := Lib.hid hI
     clear hI
     refine value_ (w1 := w'.alloc (.cells #[.bool true, .int .i64 1] 25)) (v := .slice (some ⟨w'.heap.size, 0, none⟩) 1 1) (by rfl) rfl ?_ ?_
     · go_simp
       try rfl
     refine hK.out _ _ ⟨ga, w'.heap.size, gb, gp, (by rw [ha.out, putSel_dep (L' := [(0, 22, .agg #[.int .i64 0, .int .i64 9, .int .i64 0, .slice (some ⟨bc, 0, none⟩) 1 1, .slice none 0 0, .slice none 0 0]), (1, 23, .agg #[.bool true, .int .i64 0]), (2, 24, .agg #[.bool false, .int .i64 5]), (3, 25, .agg #[.int .i64 1, .int .i64 6, .int .i64 0, .slice (some ⟨ga, 0, none⟩) 2 2, .slice none 0 0, .slice none 0 0]), (4, 26, .agg #[.bool true, .int .i64 1]), (5, 27, .slice (some ⟨gs, 0, none⟩) 1 1), (6, 28, .agg #[.int .i64 2, .int .i64 2, .int .i64 13, .slice (some ⟨w'.heap.size, 0, none⟩) 1 1, .slice none 0 0, .slice none 0 0]), (7, 29, .slice (some ⟨gb, 0, none⟩) 3 3), (8, 30, .agg #[.slice (some ⟨gb, 0, none⟩) 3 3, .bool false, .int .i64 0]), (9, 4, .pointer (some ⟨gp, 0, none⟩))]) (.same (.same (.same (.same (.same (.same (.turn o6 (.same (.same (.same (.nil)))))))))))]; exact putSel_upk 5 hb_ rfl rfl rfl), KI.step hL (by decide) ((HI.out.1 hL).new 5 _ ?_)⟩
     intro x hx
     simp only [List.mem_cons, List.not_mem_nil, or_false] at hx
     rcases hx with rfl | rfl | rfl | rfl
     · exact .inr ⟨by simp, .inl (by simp)⟩
     · exact .inl rfl
     · exact .inr ⟨by simp, .inr o7⟩
     · exact .inr ⟨by simp, .inl (by simp)⟩
   refine steps_cons ?_ ?_
   · rintro b a w' ⟨ga, gs, gb, gp, ha, hI⟩ hb_ hon hoff
     refine ⟨_, rfl, fun K hK => ?_⟩
     have e27 : a.tmps[27]? = some (.slice (some ⟨gs, 0, none⟩) 1 1) := by rw [ha]; exact putSel_on (e := (5, 27, .slice (some ⟨gs, 0, none⟩) 1 1)) 5 rfl rfl (hon 5 (by kernel_rfl)) rfl
     have hL : b 10 = false := hoff 10 (by kernel_rfl)
     replace ha := Lib.hid ha
     have HI := Lib.hid hI
     clear hI
     refine goes_ Tryz.func16 (by kernel_rfl) rfl #[.int .i64 2, .int .i64 13, .slice (some ⟨gs, 0, none⟩) 1 1] (by rfl) rfl rfl (by first | (simp only [List.map_toArray, List.map_cons, List.map_nil, Act.eval, Array.getD_eq_getD_getElem?, Option.getD_some, e27]; done) | (simp only [List.map_toArray, List.map_cons, List.map_nil, Act.eval, Array.getD_eq_getD_getElem?, Option.getD_some, e27]; rfl)) ?_
     refine (mkbind_any 2 13 _ 1 1 w').mono ?_
     rintro e w2 ⟨rfl, hb2⟩
     exact ⟨_, rfl, hK.out _ _ ⟨ga, gs, gb, gp, (by rw [ha.out]; exact putSel_upk 6 hb_ rfl rfl rfl), KI.step hL (by decide) ((HI.out.1 hL).grow hb2 (by rfl))⟩⟩
   refine steps_cons ?_ ?_
   · rintro b a w' ⟨ga, gs, gb, gp, ha, hI⟩ hb_ hon hoff
     refine ⟨_, rfl, fun K hK => ?_⟩
     have e22 : a.tmps[22]? = some (.agg #[.int .i64 0, .int .i64 9, .int .i64 0, .slice (some ⟨bc, 0, none⟩) 1 1, .slice none 0 0, .slice none 0 0]) := by rw [ha]; exact putSel_on (e := (0, 22, .agg #[.int .i64 0, .int .i64 9, .int .i64 0, .slice (some ⟨bc, 0, none⟩) 1 1, .slice none 0 0, .slice none 0 0])) 0 rfl rfl (hon 0 (by kernel_rfl)) rfl
     have e25 : a.tmps[25]? = some (.agg #[.int .i64 1, .int .i64 6, .int .i64 0, .slice (some ⟨ga, 0, none⟩) 2 2, .slice none 0 0, .slice none 0 0]) := by rw [ha]; exact putSel_on (e := (3, 25, .agg #[.int .i64 1, .int .i64 6, .int .i64 0, .slice (some ⟨ga, 0, none⟩) 2 2, .slice none 0 0, .slice none 0 0])) 3 rfl rfl (hon 3 (by kernel_rfl)) rfl
     have e28 : a.tmps[28]? = some (.agg #[.int .i64 2, .int .i64 2, .int .i64 13, .slice (some ⟨gs, 0, none⟩) 1 1, .slice none 0 0, .slice none 0 0]) := by rw [ha]; exact putSel_on (e := (6, 28, .agg #[.int .i64 2, .int .i64 2, .int .i64 13, .slice (some ⟨gs, 0, none⟩) 1 1, .slice none 0 0, .slice none 0 0])) 6 rfl rfl (hon 6 (by kernel_rfl)) rfl
     have o8 : b 8 = false := hoff 8 (by kernel_rfl)
     have hL : b 10 = false := hoff 10 (by kernel_rfl)
     replace ha := Lib.hid ha
     have HI := Lib.hid hI
     clear hI
     refine value_ (w1 := w'.alloc (.cells #[.int .i64 0, .int .i64 9, .int .i64 0, .slice (some ⟨bc, 0, none⟩) 1 1, .slice none 0 0, .slice none 0 0, .int .i64 1, .int .i64 6, .int .i64 0, .slice (some ⟨ga, 0, none⟩) 2 2, .slice none 0 0, .slice none 0 0, .int .i64 2, .int .i64 2, .int .i64 13, .slice (some ⟨gs, 0, none⟩) 1 1, .slice none 0 0, .slice none 0 0] 62)) (v := .slice (some ⟨w'.heap.size, 0, none⟩) 3 3) (by rfl) rfl ?_ ?_
     · go_simp
       try rfl
     refine hK.out _ _ ⟨ga, gs, w'.heap.size, gp, (by rw [ha.out, putSel_dep (L' := [(0, 22, .agg #[.int .i64 0, .int .i64 9, .int .i64 0, .slice (some ⟨bc, 0, none⟩) 1 1, .slice none 0 0, .slice none 0 0]), (1, 23, .agg #[.bool true, .int .i64 0]), (2, 24, .agg #[.bool false, .int .i64 5]), (3, 25, .agg #[.int .i64 1, .int .i64 6, .int .i64 0, .slice (some ⟨ga, 0, none⟩) 2 2, .slice none 0 0, .slice none 0 0]), (4, 26, .agg #[.bool true, .int .i64 1]), (5, 27, .slice (some ⟨gs, 0, none⟩) 1 1), (6, 28, .agg #[.int .i64 2, .int .i64 2, .int .i64 13, .slice (some ⟨gs, 0, none⟩) 1 1, .slice none 0 0, .slice none 0 0]), (7, 29, .slice (some ⟨gb, 0, none⟩) 3 3), (8, 30, .agg #[.slice (some ⟨w'.heap.size, 0, none⟩) 3 3, .bool false, .int .i64 0]), (9, 4, .pointer (some ⟨gp, 0, none⟩))]) (.same (.same (.same (.same (.same (.same (.same (.same (.turn o8 (.same (.nil)))))))))))]; exact putSel_upk 7 hb_ rfl rfl rfl), KI.step hL (by decide) ((HI.out.1 hL).new 7 _ ?_)⟩
     intro x hx
     simp only [List.mem_cons, List.not_mem_nil, or_false] at hx
     rcases hx with rfl | rfl | rfl | rfl
     · exact .inr ⟨by simp, .inl (by simp)⟩
     · exact .inr ⟨by simp, .inl (by simp)⟩
     · exact .inl rfl
     · exact .inr ⟨by simp, .inl (by simp)⟩
   refine steps_cons ?_ ?_
   · rintro b a w' ⟨ga, gs, gb, gp, ha, hI⟩ hb_ hon hoff
     refine ⟨_, rfl, fun K hK => ?_⟩
     have e29 : a.tmps[29]? = some (.slice (some ⟨gb, 0, none⟩) 3 3) := by rw [ha]; exact putSel_on (e := (7, 29, .slice (some ⟨gb, 0, none⟩) 3 3)) 7 rfl rfl (hon 7 (by kernel_rfl)) rfl
     have hL : b 10 = false := hoff 10 (by kernel_rfl)
     replace ha := Lib.hid ha
     have HI := Lib.hid hI
     clear hI
     refine value_ (w1 := w') (v := .agg #[.slice (some ⟨gb, 0, none⟩) 3 3, .bool false, .int .i64 0]) (by rfl) rfl ?_ ?_
     · go_simp
       try rfl
     exact hK.out _ _ ⟨ga, gs, gb, gp, (by rw [ha.out]; exact putSel_upk 8 hb_ rfl rfl rfl), KI.step hL (by decide) ((HI.out.1 hL).pass (by rfl))⟩
   refine steps_cons ?_ ?_
   · rintro b a w' ⟨ga, gs, gb, gp, ha, hI⟩ hb_ hon hoff
     refine ⟨_, rfl, fun K hK => ?_⟩
     have hL : b 10 = false := hoff 10 (by kernel_rfl)
     replace ha := Lib.hid ha
     have HI := Lib.hid hI
     clear hI
     refine value_ (w1 := w'.alloc (.cells #[.slice none 0 0, .bool false, .int .i64 0] 27)) (v := .pointer (some ⟨w'.heap.size, 0, none⟩)) (by rfl) rfl ?_ ?_
     · go_simp
       try rfl
     refine hK.out _ _ ⟨ga, gs, gb, w'.heap.size, (by rw [ha.out, putSel_dep (L' := [(0, 22, .agg #[.int .i64 0, .int .i64 9, .int .i64 0, .slice (some ⟨bc, 0, none⟩) 1 1, .slice none 0 0, .slice none 0 0]), (1, 23, .agg #[.bool true, .int .i64 0]), (2, 24, .agg #[.bool false, .int .i64 5]), (3, 25, .agg #[.int .i64 1, .int .i64 6, .int .i64 0, .slice (some ⟨ga, 0, none⟩) 2 2, .slice none 0 0, .slice none 0 0]), (4, 26, .agg #[.bool true, .int .i64 1]), (5, 27, .slice (some ⟨gs, 0, none⟩) 1 1), (6, 28, .agg #[.int .i64 2, .int .i64 2, .int .i64 13, .slice (some ⟨gs, 0, none⟩) 1 1, .slice none 0 0, .slice none 0 0]), (7, 29, .slice (some ⟨gb, 0, none⟩) 3 3), (8, 30, .agg #[.slice (some ⟨gb, 0, none⟩) 3 3, .bool false, .int .i64 0]), (9, 4, .pointer (some ⟨gp, 0, none⟩))]) (.same (.same (.same (.same (.same (.same (.same (.same (.same (.same (.nil)))))))))))]; exact putSel_upk 9 hb_ rfl rfl rfl), KI.step hL (by decide) ((HI.out.1 hL).new 9 _ ?_)⟩
     intro x hx
     simp only [List.mem_cons, List.not_mem_nil, or_false] at hx
     rcases hx with rfl | rfl | rfl | rfl
     · exact .inr ⟨by simp, .inl (by simp)⟩
     · exact .inr ⟨by simp, .inl (by simp)⟩
     · exact .inr ⟨by simp, .inl (by simp)⟩
     · exact .inl rfl
   refine steps_cons ?_ ?_
   · rintro b a w' ⟨ga, gs, gb, gp, ha, hI⟩ hb_ hon hoff
     refine ⟨_, rfl, fun K hK => ?_⟩
     have e30 : a.tmps[30]? = some (.agg #[.slice (some ⟨gb, 0, none⟩) 3 3, .bool false, .int .i64 0]) := by rw [ha]; exact putSel_on (e := (8, 30, .agg #[.slice (some ⟨gb, 0, none⟩) 3 3, .bool false, .int .i64 0])) 8 rfl rfl (hon 8 (by kernel_rfl)) rfl
     have e4 : a.tmps[4]? = some (.pointer (some ⟨gp, 0, none⟩)) := by rw [ha]; exact putSel_on (e := (9, 4, .pointer (some ⟨gp, 0, none⟩))) 9 rfl rfl (hon 9 (by kernel_rfl)) rfl
     have q3 := hon 3 (by kernel_rfl)
     have q5 := hon 5 (by kernel_rfl)
     have q7 := hon 7 (by kernel_rfl)
     have q9 := hon 9 (by kernel_rfl)
     replace ha := Lib.hid ha
     have HI := Lib.hid hI
     clear hI
     obtain ⟨y0, y1, y2, y3⟩ := zero3 (HI.out.1 hb_) (i := 9) (g := gp) (c0 := .slice none 0 0) (c1 := .bool false) (c2 := .int .i64 0) (t := 27) (by simp) q9
     refine skip_ (w1 := set3 w' gp (.slice (some ⟨gb, 0, none⟩) 3 3) (.bool false) (.int .i64 0)) (by rfl) rfl ?_ ?_
     · unfold set3
       go_simp
       try rfl
     refine hK.out _ _ ⟨ga, gs, gb, gp, (by rw [ha.out]; exact (putSel_skip rfl).symm), KI.last ((HI.out.1 hb_).set3 _ _ _ (i := 9) (g := gp) (c0 := .slice none 0 0) (c1 := .bool false) (c2 := .int .i64 0) (t := 27) (by simp) q9 ?_)⟩
     intro x hx
     simp only [List.mem_cons, List.not_mem_nil, or_false] at hx
     rcases hx with rfl | rfl | rfl | rfl
     · exact .inr ⟨by simp, by simp, by simp, q3⟩
     · exact .inr ⟨by simp, by simp, by simp, q5⟩
     · exact .inr ⟨by simp, by simp, by simp, q7⟩
     · exact .inl ⟨rfl, rfl, rfl⟩
   exact steps_nil
 rintro b a w' hall ⟨ga, gs, gb, gp, ha, hI⟩
 have hl : ∀ j, j ≤ 10 → b j = true := fun j hj => hall j (by
  have : j = 0 ∨ j = 1 ∨ j = 2 ∨ j = 3 ∨ j = 4 ∨ j = 5 ∨ j = 6 ∨ j = 7 ∨ j = 8 ∨ j = 9 ∨ j = 10 := by omega
  rcases this with rfl | rfl | rfl | rfl | rfl | rfl | rfl | rfl | rfl | rfl | rfl <;> rfl)
 have b0 := hl 0 (by decide)
 have b1 := hl 1 (by decide)
 have b2 := hl 2 (by decide)
 have b3 := hl 3 (by decide)
 have b4 := hl 4 (by decide)
 have b5 := hl 5 (by decide)
 have b6 := hl 6 (by decide)
 have b7 := hl 7 (by decide)
 have b8 := hl 8 (by decide)
 have b9 := hl 9 (by decide)
 have b10 := hl 10 (by decide)
 have hF := hI.2 b10
 subst ha
 simp only [putSel, b0, b1, b2, b3, b4, b5, b6, b7, b8, b9, if_true, Act.put, List.setIfInBounds_toArray, List.set_cons_zero, List.set_cons_succ, Exit.then]
 exact HK0.out _ _ (HEND.out _ ga gs gb gp hF.bel (hF.at_ (3, ga, (.cells #[.bool true, .int .i64 0, .bool false, .int .i64 5] 25)) (by simp) b3).2 (hF.at_ (5, gs, (.cells #[.bool true, .int .i64 1] 25)) (by simp) b5).2 (hF.at_ (7, gb, (.cells #[.int .i64 0, .int .i64 9, .int .i64 0, .slice (some ⟨bc, 0, none⟩) 1 1, .slice none 0 0, .slice none 0 0, .int .i64 1, .int .i64 6, .int .i64 0, .slice (some ⟨ga, 0, none⟩) 2 2, .slice none 0 0, .slice none 0 0, .int .i64 2, .int .i64 2, .int .i64 13, .slice (some ⟨gs, 0, none⟩) 1 1, .slice none 0 0, .slice none 0 0] 62)) (by simp) b7).2 (hF.at_ (9, gp, (.cells #[.slice (some ⟨gb, 0, none⟩) 3 3, .bool false, .int .i64 0] 27)) (by simp) b9).2 _ _ _ _ _ _ _ _ _ _ _ _ _ _ _ _ _ _ _ _ _ _ _ _ _ _ _ _ _ _ _ _ _ _ _ _ _ _ _ _ _ _ _ _ _ _ _ _ _)
end Go.Proofs.YtnobggabjpcbfaaGreat
