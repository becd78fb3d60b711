/-
  8 texts of this seat in one: N1 N2 N3 N4 N5 N6 N7 N8.
-/
import Derived.Test.YtnolhcdfknjncaaDoorQP
import Derived.Test.YtnolhcdfknjncaaDoorWInvWords
import Derived.Test.YtnolhcdfknjncaaDoorQI
import Derived.Test.YtnolhcdfknjncaaDoorQG
/-
  CevalLet: its parts; what stands behind its runs.
-/
set_option linter.unusedVariables false
set_option linter.unusedSimpArgs false
namespace Go.Proofs.YtnolhcdfknjncaaDoor
open Go.RowKit


/-- the code from the last statement on; from the second and third runs on; from the second guard on; from the making of the terms on -/
noncomputable def letT18 : Code := match Tryd.f5.body with
  | some (.seq _ (.seq _ (.seq _ (.seq _ (.seq _ (.seq _ (.seq _ (.seq _ (.seq _ (.seq _ c)))))))))) => c
  | _ => .skip
noncomputable def letT17 : Code := match Tryd.f5.body with
  | some (.seq _ (.seq _ (.seq _ (.seq _ (.seq _ (.seq _ (.seq _ (.seq _ (.seq _ c))))))))) => c
  | _ => .skip
noncomputable def letR17 : Code := match Tryd.f5.body with
  | some (.seq _ (.seq _ (.seq _ (.seq _ (.seq _ (.seq _ (.seq _ (.seq _ (.seq _ (.seq c _)))))))))) => c
  | _ => .skip
noncomputable def letR10 : Code := match Tryd.f5.body with
  | some (.seq _ (.seq _ (.seq _ (.seq _ (.seq c _))))) => c
  | _ => .skip
noncomputable def letR11 : Code := match Tryd.f5.body with
  | some (.seq _ (.seq _ (.seq _ (.seq _ (.seq _ (.seq c _)))))) => c
  | _ => .skip
noncomputable def letT12 : Code := match Tryd.f5.body with
  | some (.seq _ (.seq _ (.seq _ (.seq _ (.seq _ (.seq _ c)))))) => c
  | _ => .skip
noncomputable def letT10 : Code := match Tryd.f5.body with
  | some (.seq _ (.seq _ (.seq _ (.seq _ c)))) => c
  | _ => .skip

theorem end_cells {V : World} {X : Nat} {pe : PEnd} (h : EndAt V X pe) : ∃ A c, V.cell? ⟨X, 0, none⟩ = some (.int .i64 pe.kind) ∧ V.cell? ⟨X, 1, none⟩ = some (.int .i64 pe.n) ∧ V.cell? ⟨X, 2, none⟩ = some (.slice A pe.out.length c) ∧ V.cell? ⟨X, 3, none⟩ = some (.int .i64 pe.steps) ∧ IntsIn V.heap.size V A pe.out := by
  obtain ⟨A, c, h9, hi⟩ := h
  exact ⟨A, c, by simp [World.cell?, h9], by simp [World.cell?, h9], by simp [World.cell?, h9], by simp [World.cell?, h9], hi⟩

set_option maxRecDepth 100000 in
set_option maxHeartbeats 8000000 in
theorem let_tail18 {W V : World} (hb : Below W.heap.size W V) (hr : Ready V) {X12 X13 X14 : Nat} {pa pb pc : PEnd} (ha : EndAt V X12 pa) (hb2 : EndAt V X13 pb) (hc2 : EndAt V X14 pc)
    (h1 : sameE pa pb = true) (h2 : pb.steps = pa.steps + 3) (h3 : sameE pa pc = true) (h4 : pa.kind = 1 → pc.steps = pa.steps + 2) (hsm : pa.steps ≤ 1000000) (u0 u1 u2 u3 u4 u5 u6 u7 u8 u9 u10 u11 u15 u16 u17 u18 u19 u20 u21 u22 u23 u24 u25 u26 u27 u28 u29 u30 u31 u32 u33 u34 u35 u36 u37 u38 u39 u40 u41 u42 u43 u44 u45 u46 u47 u48 u49 u50 u51 u52 u53 u54 u55 u56 u57 u58 u59 u60 u61 u62 u63 u64 u65 u66 u67 u68 u69 u70 u71 u72 u73 u74 u75 u76 u77 u78 u79 u80 u81 u82 u83 u84 u85 u86 u87 u88 u89 u90 u91 u92 u93 u94 u95 u96 u97 u98 u99 u100 u101 u102 u103 u104 u105 u106 u107 u108 u109 u110 : Value) :
    letT18.wp Tryd.prog (bodyPost Tryd.prog Tryd.f5 (BoolBelow true W)) { tmps := #[u0, u1, u2, u3, u4, u5, u6, u7, u8, u9, u10, u11, .pointer (some ⟨X12, 0, none⟩), .pointer (some ⟨X13, 0, none⟩), .pointer (some ⟨X14, 0, none⟩), u15, u16, u17, u18, u19, u20, u21, u22, u23, u24, u25, u26, u27, u28, u29, u30, u31, u32, u33, u34, u35, u36, u37, u38, u39, u40, u41, u42, u43, u44, u45, u46, u47, u48, u49, u50, u51, u52, u53, u54, u55, u56, u57, u58, u59, u60, u61, u62, u63, u64, u65, u66, u67, u68, u69, u70, u71, u72, u73, u74, u75, u76, u77, u78, u79, u80, u81, u82, u83, u84, u85, u86, u87, u88, u89, u90, u91, u92, u93, u94, u95, u96, u97, u98, u99, u100, u101, u102, u103, u104, u105, u106, u107, u108, u109, u110], defers := [] } V := by
  obtain ⟨A, c, a0, a1, a2, a3, hia⟩ := end_cells ha
  obtain ⟨B, d, b0, b1, b2, b3, hib⟩ := end_cells hb2
  obtain ⟨C, e, c0, c1, c2, c3, hic⟩ := end_cells hc2
  have HS1 := Lib.hid (same_any (v := .agg #[.int .i64 pa.kind, .int .i64 pa.n, .slice A pa.out.length c, .int .i64 pa.steps]) (u := .agg #[.int .i64 pb.kind, .int .i64 pb.n, .slice B pb.out.length d, .int .i64 pb.steps]) V ⟨A, c, rfl, hia⟩ ⟨B, d, rfl, hib⟩)
  have HS2 := Lib.hid (fun (V2 : World) (h : Below V.heap.size V V2) => same_any (v := .agg #[.int .i64 pa.kind, .int .i64 pa.n, .slice A pa.out.length c, .int .i64 pa.steps]) (u := .agg #[.int .i64 pc.kind, .int .i64 pc.n, .slice C pc.out.length e, .int .i64 pc.steps]) V2 ⟨A, c, rfl, (hia.below h).mono h.size⟩ ⟨C, e, rfl, (hic.below h).mono h.size⟩)
  rw [h1] at HS1
  rw [h3] at HS2
  have HK := Lib.hid (fun (V2 : World) (h : Below V.heap.size V V2) => knows_any V2 (hr.below h))
  have HB := Lib.hid hb
  have HC := Lib.hid (fun (V2 : World) (h : Below V.heap.size V V2) => (show V2.cell? ⟨X12, 0, none⟩ = some (.int .i64 pa.kind) ∧ V2.cell? ⟨X12, 1, none⟩ = some (.int .i64 pa.n) ∧ V2.cell? ⟨X12, 2, none⟩ = some (.slice A pa.out.length c) ∧ V2.cell? ⟨X12, 3, none⟩ = some (.int .i64 pa.steps) ∧ V2.cell? ⟨X13, 3, none⟩ = some (.int .i64 pb.steps) ∧
    V2.cell? ⟨X14, 0, none⟩ = some (.int .i64 pc.kind) ∧ V2.cell? ⟨X14, 1, none⟩ = some (.int .i64 pc.n) ∧ V2.cell? ⟨X14, 2, none⟩ = some (.slice C pc.out.length e) ∧ V2.cell? ⟨X14, 3, none⟩ = some (.int .i64 pc.steps) from
    ⟨cell_behind h a0, cell_behind h a1, cell_behind h a2, cell_behind h a3, cell_behind h b3, cell_behind h c0, cell_behind h c1, cell_behind h c2, cell_behind h c3⟩))
  have hw3 : IntKind.i64.wrap ((pa.steps : Int) + 3) = (pa.steps : Int) + 3 := by rw [IntKind.wrap_i64]; omega
  have hw2 : IntKind.i64.wrap ((pa.steps : Int) + 2) = (pa.steps : Int) + 2 := by rw [IntKind.wrap_i64]; omega
  have hst3 : ((pb.steps : Int) == (pa.steps : Int) + 3) = true := by rw [h2]; simp
  by_cases hk : pa.kind = 1
  · have hst2 : ((pc.steps : Int) == (pa.steps : Int) + 2) = true := by rw [h4 hk]; simp
    have hk' : (pa.kind == 1) = true := by simpa using hk
    have hk2 : (pa.kind != 1) = false := by simpa using hk
    clear h1 h2 h3 h4 hia hib hic hb hr ha hb2 hc2 hk hsm
    obtain ⟨Q, hQ⟩ : ∃ Q, (bodyPost Tryd.prog Tryd.f5 (BoolBelow true W)) = Q := ⟨_, rfl⟩
    have HQ := Lib.hid hQ
    rw [hQ]
    clear hQ
    unfold letT18 Tryd.f5
    dsimp only
    go_wp2_with (first
      | (go_at_call 12; (with_reducible refine HS1.out.mono ?_); rintro en V2 ⟨rfl, hv2⟩; obtain ⟨q0, q1, q2, q3, q4, q5, q6, q7, q8⟩ := HC.out _ hv2)
      | (go_at_call 12; refine (HS2.out _ hv2).mono ?_; rintro en V3 ⟨rfl, hv3⟩; have hv5 := hv2.trans (hv3.mono hv2.size); obtain ⟨p0, p1, p2, p3, p4, p5, p6, p7, p8⟩ := HC.out _ hv5)
      | (go_at_call 8; refine (HK.out _ hv5).mono ?_; rintro en V4 ⟨rfl, hv4⟩))
    rw [← HQ.out]
    go_ret
    have h1 := HB.out.trans (hv5.mono HB.out.size)
    exact ⟨rfl, h1.trans (hv4.mono h1.size)⟩
  · have hk' : (pa.kind == 1) = false := by simpa using hk
    have hk2 : (pa.kind != 1) = true := by simpa using hk
    clear h1 h2 h3 h4 hia hib hic hb hr ha hb2 hc2 hk hsm
    obtain ⟨Q, hQ⟩ : ∃ Q, (bodyPost Tryd.prog Tryd.f5 (BoolBelow true W)) = Q := ⟨_, rfl⟩
    have HQ := Lib.hid hQ
    rw [hQ]
    clear hQ
    unfold letT18 Tryd.f5
    dsimp only
    go_wp2_with (first
      | (go_at_call 12; (with_reducible refine HS1.out.mono ?_); rintro en V2 ⟨rfl, hv2⟩; obtain ⟨q0, q1, q2, q3, q4, q5, q6, q7, q8⟩ := HC.out _ hv2)
      | (go_at_call 12; refine (HS2.out _ hv2).mono ?_; rintro en V3 ⟨rfl, hv3⟩; have hv5 := hv2.trans (hv3.mono hv2.size); obtain ⟨p0, p1, p2, p3, p4, p5, p6, p7, p8⟩ := HC.out _ hv5)
      | (go_at_call 8; refine (HK.out _ hv5).mono ?_; rintro en V4 ⟨rfl, hv4⟩))
    rw [← HQ.out]
    go_ret
    have h1 := HB.out.trans (hv5.mono HB.out.size)
    exact ⟨rfl, h1.trans (hv4.mono h1.size)⟩
end Go.Proofs.YtnolhcdfknjncaaDoor

/-
  Two runs whose ends are laid into two variables, in whatever order: what holds of the world meanwhile.
-/
set_option linter.unusedVariables false
set_option linter.unusedSimpArgs false
namespace Go.Proofs.YtnolhcdfknjncaaDoor
open Go.RowKit Go.Proofs.YtnolhcdfknjncaaDoorW.PrintLast

/-- an end that is not filled yet -/
def Zero (V : World) (b : Nat) : Prop := V.heap[b]? = some (.cells #[.int .i64 0, .int .i64 0, .slice none 0 0, .int .i64 0] 31 (0, 0))
theorem Zero.lt {V : World} {b : Nat} (h : Zero V b) : b < V.heap.size := (Array.getElem?_eq_some_iff.1 h).1
theorem Zero.new (V : World) : Zero (V.alloc (.cells #[.int .i64 0, .int .i64 0, .slice none 0 0, .int .i64 0] 31)) V.heap.size := World.alloc_heap_new V _
theorem Zero.below {V V2 : World} {b : Nat} (h : Zero V b) (hb : Below V.heap.size V V2) : Zero V2 b := (hb.block b h.lt).trans h
theorem Zero.cells {V : World} {b : Nat} (h : Zero V b) : V.cell? ⟨b, 0, none⟩ = some (.int .i64 0) ∧ V.cell? ⟨b, 1, none⟩ = some (.int .i64 0) ∧ V.cell? ⟨b, 2, none⟩ = some (.slice none 0 0) ∧ V.cell? ⟨b, 3, none⟩ = some (.int .i64 0) ∧ ∀ i, V.frozen? ⟨b, i, none⟩ = false := by
  unfold Zero at h
  exact ⟨by simp [World.cell?, h], by simp [World.cell?, h], by simp [World.cell?, h], by simp [World.cell?, h], fun i => by simp [World.frozen?, h]⟩
/-- what an end's list lies in is not a block -/
def Off (A : Option Addr) (ks : List Int) (X : Nat) : Prop := ks = [] ∨ ∀ a, A = some a → a.block ≠ X
def endC (pe : PEnd) (A : Option Addr) (c : Nat) : Obj := .cells #[.int .i64 pe.kind, .int .i64 pe.n, .slice A pe.out.length c, .int .i64 pe.steps] 31 (0, 0)
theorem off_new {B : Nat} {w : World} {A : Option Addr} {ks : List Int} (h : IntsIn B w A ks) {X : Nat} (hX : B ≤ X) : Off A ks X := by
  rcases h.2 with h0 | ⟨b, o, rfl, hb, _⟩
  · exact .inl h0
  · exact .inr (fun a ha => by cases ha; show b ≠ X; omega)
theorem ints_set {B : Nat} {w : World} {A : Option Addr} {ks : List Int} {X : Nat} (h : IntsIn B w A ks) (hX : Off A ks X) (i : Nat) (x : Value) : IntsIn B (w.setCell ⟨X, i, none⟩ x) A ks := by
  refine ⟨h.1, ?_⟩
  rcases h.2 with h0 | ⟨b, o, rfl, hb, hc⟩
  · exact .inl h0
  · rcases hX with h0 | hX
    · exact .inl h0
    · have hne : b ≠ X := hX _ rfl
      exact .inr ⟨b, o, rfl, hb, fun j hj => (cell_of_heap (heap_set_ne hne _ _) _).trans (hc j hj)⟩
def set4 (w : World) (X : Nat) (pe : PEnd) (A : Option Addr) (c : Nat) : World :=
  (((w.setCell ⟨X, 0, none⟩ (.int .i64 pe.kind)).setCell ⟨X, 1, none⟩ (.int .i64 pe.n)).setCell ⟨X, 2, none⟩ (.slice A pe.out.length c)).setCell ⟨X, 3, none⟩ (.int .i64 pe.steps)
theorem set4_self {w : World} {X : Nat} (h : Zero w X) (pe : PEnd) (A : Option Addr) (c : Nat) : (set4 w X pe A c).heap[X]? = some (endC pe A c) := by
  unfold set4
  rw [heap_set_self (heap_set_self (heap_set_self (heap_set_self h 0 _) 1 _) 2 _) 3 _]; rfl
theorem set4_ne {w : World} {X k : Nat} (h : k ≠ X) (pe : PEnd) (A : Option Addr) (c : Nat) : (set4 w X pe A c).heap[k]? = w.heap[k]? := by
  unfold set4
  rw [heap_set_ne h, heap_set_ne h, heap_set_ne h, heap_set_ne h]
theorem set4_size (w : World) (X : Nat) (pe : PEnd) (A : Option Addr) (c : Nat) : (set4 w X pe A c).heap.size = w.heap.size := by
  simp [set4, World.setCell]
theorem ints_set4 {B : Nat} {w : World} {A : Option Addr} {ks : List Int} {X : Nat} (h : IntsIn B w A ks) (hX : Off A ks X) (pe : PEnd) (A' : Option Addr) (c : Nat) : IntsIn B (set4 w X pe A' c) A ks :=
  ints_set (ints_set (ints_set (ints_set h hX _ _) hX _ _) hX _ _) hX _ _

/-- what holds while the two runs go and their ends are laid -/
structure TwoR (V : World) (pb pc : PEnd) (b : Nat → Bool) (A1 A2 : Option Addr) (c1 c2 X Y : Nat) (w : World) : Prop where
  bel : Below V.heap.size V w
  r1 : b 2 = true → IntsIn w.heap.size w A1 pb.out
  r2 : b 5 = true → IntsIn w.heap.size w A2 pc.out
  x1 : b 6 = true → V.heap.size ≤ X ∧ X < w.heap.size ∧ (b 8 = false → Zero w X)
  x2 : b 7 = true → V.heap.size ≤ Y ∧ Y < w.heap.size ∧ (b 9 = false → Zero w Y)
  ne : b 6 = true → b 7 = true → X ≠ Y
  n11 : b 2 = true → b 6 = true → Off A1 pb.out X
  n12 : b 2 = true → b 7 = true → Off A1 pb.out Y
  n21 : b 5 = true → b 6 = true → Off A2 pc.out X
  n22 : b 5 = true → b 7 = true → Off A2 pc.out Y
  s1 : b 8 = true → X < w.heap.size ∧ w.heap[X]? = some (endC pb A1 c1)
  s2 : b 9 = true → Y < w.heap.size ∧ w.heap[Y]? = some (endC pc A2 c2)
theorem TwoR.start {V w : World} {pb pc : PEnd} (hb : Below V.heap.size V w) : TwoR V pb pc (fun _ => false) none none 0 0 0 0 w :=
  ⟨hb, fun h => Bool.noConfusion h, fun h => Bool.noConfusion h, fun h => Bool.noConfusion h, fun h => Bool.noConfusion h, fun h => Bool.noConfusion h, fun h => Bool.noConfusion h, fun h => Bool.noConfusion h, fun h => Bool.noConfusion h, fun h => Bool.noConfusion h, fun h => Bool.noConfusion h, fun h => Bool.noConfusion h⟩
section
variable {V w w' : World} {pb pc : PEnd} {b : Nat → Bool} {A1 A2 : Option Addr} {c1 c2 X Y : Nat}
theorem up_at {b : Nat → Bool} {i j : Nat} (h : j ≠ i) (hj : up b i j = true) : b j = true := by rwa [up_ne h] at hj
/-- an operation that leaves the world -/
theorem TwoR.pass (h : TwoR V pb pc b A1 A2 c1 c2 X Y w) {i : Nat} (hi : i = 0 ∨ i = 1 ∨ i = 3 ∨ i = 4) : TwoR V pb pc (up b i) A1 A2 c1 c2 X Y w := by
  have e : ∀ j, j = 2 ∨ j = 5 ∨ j = 6 ∨ j = 7 ∨ j = 8 ∨ j = 9 → up b i j = b j := fun j hj => up_ne (by omega)
  have e2 := e 2 (by omega)
  have e5 := e 5 (by omega)
  have e6 := e 6 (by omega)
  have e7 := e 7 (by omega)
  have e8 := e 8 (by omega)
  have e9 := e 9 (by omega)
  exact ⟨h.bel, e2 ▸ h.r1, e5 ▸ h.r2, e6 ▸ e8 ▸ h.x1, e7 ▸ e9 ▸ h.x2, e6 ▸ e7 ▸ h.ne, e2 ▸ e6 ▸ h.n11, e2 ▸ e7 ▸ h.n12, e5 ▸ e6 ▸ h.n21, e5 ▸ e7 ▸ h.n22, e8 ▸ h.s1, e9 ▸ h.s2⟩
theorem off_run {A : Option Addr} {ks : List Int} {X n : Nat} (hlo : ∀ a, A = some a → n ≤ a.block) (hX : X < n) : Off A ks X := .inr (fun a ha => by have := hlo a ha; omega)
/-- the first run -/
theorem TwoR.run1 (h : TwoR V pb pc b A1 A2 c1 c2 X Y w) (h8 : b 8 = false) (hb : Below w.heap.size w w') {A : Option Addr} {c : Nat} (hi : IntsIn w'.heap.size w' A pb.out) (hlo : ∀ a, A = some a → w.heap.size ≤ a.block) : TwoR V pb pc (up b 2) A A2 c c2 X Y w' := by
  have hs := hb.size
  refine ⟨h.bel.trans (hb.mono h.bel.size), fun _ => hi, fun k => ((h.r2 (up_at (by decide) k)).below hb).mono hs, fun k => ?_, fun k => ?_, fun k l => h.ne (up_at (by decide) k) (up_at (by decide) l), fun _ k => off_run hlo (h.x1 (up_at (by decide) k)).2.1, fun _ k => off_run hlo (h.x2 (up_at (by decide) k)).2.1,
    fun k l => h.n21 (up_at (by decide) k) (up_at (by decide) l), fun k l => h.n22 (up_at (by decide) k) (up_at (by decide) l), fun k => ?_, fun k => ?_⟩
  · obtain ⟨g1, g2, g3⟩ := h.x1 (up_at (by decide) k)
    exact ⟨g1, by omega, fun l => (g3 (by rwa [up_ne (by decide)] at l)).below hb⟩
  · obtain ⟨g1, g2, g3⟩ := h.x2 (up_at (by decide) k)
    exact ⟨g1, by omega, fun l => (g3 (by rwa [up_ne (by decide)] at l)).below hb⟩
  · rw [up_ne (by decide), h8] at k; cases k
  · obtain ⟨g1, g2⟩ := h.s2 (up_at (by decide) k)
    exact ⟨by omega, (hb.block Y g1).trans g2⟩
/-- the second run -/
theorem TwoR.run2 (h : TwoR V pb pc b A1 A2 c1 c2 X Y w) (h9 : b 9 = false) (hb : Below w.heap.size w w') {A : Option Addr} {c : Nat} (hi : IntsIn w'.heap.size w' A pc.out) (hlo : ∀ a, A = some a → w.heap.size ≤ a.block) : TwoR V pb pc (up b 5) A1 A c1 c X Y w' := by
  have hs := hb.size
  refine ⟨h.bel.trans (hb.mono h.bel.size), fun k => ((h.r1 (up_at (by decide) k)).below hb).mono hs, fun _ => hi, fun k => ?_, fun k => ?_, fun k l => h.ne (up_at (by decide) k) (up_at (by decide) l),
    fun k l => h.n11 (up_at (by decide) k) (up_at (by decide) l), fun k l => h.n12 (up_at (by decide) k) (up_at (by decide) l), fun _ k => off_run hlo (h.x1 (up_at (by decide) k)).2.1, fun _ k => off_run hlo (h.x2 (up_at (by decide) k)).2.1, fun k => ?_, fun k => ?_⟩
  · obtain ⟨g1, g2, g3⟩ := h.x1 (up_at (by decide) k)
    exact ⟨g1, by omega, fun l => (g3 (by rwa [up_ne (by decide)] at l)).below hb⟩
  · obtain ⟨g1, g2, g3⟩ := h.x2 (up_at (by decide) k)
    exact ⟨g1, by omega, fun l => (g3 (by rwa [up_ne (by decide)] at l)).below hb⟩
  · obtain ⟨g1, g2⟩ := h.s1 (up_at (by decide) k)
    exact ⟨by omega, (hb.block X g1).trans g2⟩
  · rw [up_ne (by decide), h9] at k; cases k
/-- the first place -/
theorem TwoR.new1 (h : TwoR V pb pc b A1 A2 c1 c2 X Y w) (h8 : b 8 = false) : TwoR V pb pc (up b 6) A1 A2 c1 c2 w.heap.size Y (w.alloc (.cells #[.int .i64 0, .int .i64 0, .slice none 0 0, .int .i64 0] 31)) := by
  have hb : Below w.heap.size w (w.alloc (.cells #[.int .i64 0, .int .i64 0, .slice none 0 0, .int .i64 0] 31)) := (Below.refl _ _).alloc (Nat.le_refl _) _
  have hs : (w.alloc (.cells #[.int .i64 0, .int .i64 0, .slice none 0 0, .int .i64 0] 31)).heap.size = w.heap.size + 1 := World.size_alloc _ _
  refine ⟨h.bel.trans (hb.mono h.bel.size), fun k => ((h.r1 (up_at (by decide) k)).below hb).mono (by omega), fun k => ((h.r2 (up_at (by decide) k)).below hb).mono (by omega), fun k => ⟨h.bel.size, by omega, fun _ => Zero.new w⟩, fun k => ?_,
    fun _ k => by have := (h.x2 (up_at (by decide) k)).2.1; omega, fun k _ => off_new (h.r1 (up_at (by decide) k)) (Nat.le_refl _), fun k l => h.n12 (up_at (by decide) k) (up_at (by decide) l), fun k _ => off_new (h.r2 (up_at (by decide) k)) (Nat.le_refl _), fun k l => h.n22 (up_at (by decide) k) (up_at (by decide) l), fun k => ?_, fun k => ?_⟩
  · obtain ⟨g1, g2, g3⟩ := h.x2 (up_at (by decide) k)
    exact ⟨g1, by omega, fun l => (g3 (by rwa [up_ne (by decide)] at l)).below hb⟩
  · rw [up_ne (by decide), h8] at k; cases k
  · obtain ⟨g1, g2⟩ := h.s2 (up_at (by decide) k)
    exact ⟨by omega, (hb.block Y g1).trans g2⟩
/-- the second place -/
theorem TwoR.new2 (h : TwoR V pb pc b A1 A2 c1 c2 X Y w) (h9 : b 9 = false) : TwoR V pb pc (up b 7) A1 A2 c1 c2 X w.heap.size (w.alloc (.cells #[.int .i64 0, .int .i64 0, .slice none 0 0, .int .i64 0] 31)) := by
  have hb : Below w.heap.size w (w.alloc (.cells #[.int .i64 0, .int .i64 0, .slice none 0 0, .int .i64 0] 31)) := (Below.refl _ _).alloc (Nat.le_refl _) _
  have hs : (w.alloc (.cells #[.int .i64 0, .int .i64 0, .slice none 0 0, .int .i64 0] 31)).heap.size = w.heap.size + 1 := World.size_alloc _ _
  refine ⟨h.bel.trans (hb.mono h.bel.size), fun k => ((h.r1 (up_at (by decide) k)).below hb).mono (by omega), fun k => ((h.r2 (up_at (by decide) k)).below hb).mono (by omega), fun k => ?_, fun k => ⟨h.bel.size, by omega, fun _ => Zero.new w⟩,
    fun k _ => by have := (h.x1 (up_at (by decide) k)).2.1; omega, fun k l => h.n11 (up_at (by decide) k) (up_at (by decide) l), fun k _ => off_new (h.r1 (up_at (by decide) k)) (Nat.le_refl _), fun k l => h.n21 (up_at (by decide) k) (up_at (by decide) l), fun k _ => off_new (h.r2 (up_at (by decide) k)) (Nat.le_refl _), fun k => ?_, fun k => ?_⟩
  · obtain ⟨g1, g2, g3⟩ := h.x1 (up_at (by decide) k)
    exact ⟨g1, by omega, fun l => (g3 (by rwa [up_ne (by decide)] at l)).below hb⟩
  · obtain ⟨g1, g2⟩ := h.s1 (up_at (by decide) k)
    exact ⟨by omega, (hb.block X g1).trans g2⟩
  · rw [up_ne (by decide), h9] at k; cases k
theorem bel_set4 (h : Below V.heap.size V w) {X : Nat} (hX : V.heap.size ≤ X) (pe : PEnd) (A : Option Addr) (c : Nat) : Below V.heap.size V (set4 w X pe A c) :=
  (((h.setCell (p := ⟨X, 0, none⟩) hX _).setCell (p := ⟨X, 1, none⟩) hX _).setCell (p := ⟨X, 2, none⟩) hX _).setCell (p := ⟨X, 3, none⟩) hX _
/-- the first end is laid -/
theorem TwoR.lay1 (h : TwoR V pb pc b A1 A2 c1 c2 X Y w) (h2 : b 2 = true) (h6 : b 6 = true) (h7 : b 7 = true) (h8 : b 8 = false) (h9 : b 9 = false) : TwoR V pb pc (up b 8) A1 A2 c1 c2 X Y (set4 w X pb A1 c1) := by
  obtain ⟨g1, g2, g3⟩ := h.x1 h6
  have hs := set4_size w X pb A1 c1
  have hne := h.ne h6 h7
  refine ⟨bel_set4 h.bel g1 _ _ _, fun k => hs ▸ ints_set4 (h.r1 h2) (h.n11 h2 h6) _ _ _, fun k => hs ▸ ints_set4 (h.r2 (up_at (by decide) k)) (h.n21 (up_at (by decide) k) h6) _ _ _, fun _ => ⟨g1, by omega, fun k => by rw [up_self] at k; cases k⟩, fun k => ?_,
    fun _ _ => hne, fun _ _ => h.n11 h2 h6, fun _ _ => h.n12 h2 h7, fun k _ => h.n21 (up_at (by decide) k) h6, fun k _ => h.n22 (up_at (by decide) k) h7, fun _ => ⟨by omega, set4_self (g3 h8) _ _ _⟩, fun k => ?_⟩
  · obtain ⟨k1, k2, k3⟩ := h.x2 h7
    exact ⟨k1, by omega, fun l => (set4_ne (Ne.symm hne) _ _ _).trans (k3 h9)⟩
  · rw [up_ne (by decide), h9] at k; cases k
/-- the second end is laid -/
theorem TwoR.lay2 (h : TwoR V pb pc b A1 A2 c1 c2 X Y w) (h5 : b 5 = true) (h6 : b 6 = true) (h7 : b 7 = true) (h8 : b 8 = true) (h9 : b 9 = false) : TwoR V pb pc (up b 9) A1 A2 c1 c2 X Y (set4 w Y pc A2 c2) := by
  obtain ⟨g1, g2, g3⟩ := h.x2 h7
  have hs := set4_size w Y pc A2 c2
  have hne := h.ne h6 h7
  refine ⟨bel_set4 h.bel g1 _ _ _, fun k => hs ▸ ints_set4 (h.r1 (up_at (by decide) k)) (h.n12 (up_at (by decide) k) h7) _ _ _, fun k => hs ▸ ints_set4 (h.r2 h5) (h.n22 h5 h7) _ _ _, fun k => ?_, fun _ => ⟨g1, by omega, fun k => by rw [up_self] at k; cases k⟩,
    fun _ _ => hne, fun k _ => h.n11 (up_at (by decide) k) h6, fun k _ => h.n12 (up_at (by decide) k) h7, fun k _ => h.n21 (up_at (by decide) k) h6, fun k _ => h.n22 (up_at (by decide) k) h7, fun k => ?_, fun _ => ⟨by omega, set4_self (g3 h9) _ _ _⟩⟩
  · obtain ⟨k1, k2, k3⟩ := h.x1 h6
    exact ⟨k1, by omega, fun l => by rw [up_ne (by decide), h8] at l; cases l⟩
  · obtain ⟨k1, k2⟩ := h.s1 h8
    exact ⟨by omega, (set4_ne hne _ _ _).trans k2⟩
/-- both lie in their variables -/
theorem TwoR.ends (h : TwoR V pb pc b A1 A2 c1 c2 X Y w) (h2 : b 2 = true) (h5 : b 5 = true) (h8 : b 8 = true) (h9 : b 9 = true) : Below V.heap.size V w ∧ EndAt w X pb ∧ EndAt w Y pc :=
  ⟨h.bel, ⟨A1, c1, (h.s1 h8).2, h.r1 h2⟩, ⟨A2, c2, (h.s2 h9).2, h.r2 h5⟩⟩
end
end Go.Proofs.YtnolhcdfknjncaaDoor

/-
  CevalLet: the second and third runs.
-/
set_option linter.unusedVariables false
set_option linter.unusedSimpArgs false
namespace Go.Proofs.YtnolhcdfknjncaaDoor
open Go.RowKit

open Go.Proofs.YtnolhcdfknjncaaDoorW.PrintWords Go.Proofs.YtnolhcdfknjncaaDoorW.PrintLast
theorem putSel_skip {b : Nat → Bool} {i : Nat} : ∀ {l : List (Nat × Tmp × Value)} {a : Act}, (l.all fun e => !(e.1 == i)) = true → putSel a (up b i) l = putSel a b l
  | [], a, _ => rfl
  | e :: l, a, h => by
    rw [List.all_cons, Bool.and_eq_true] at h
    have he : e.1 ≠ i := by simpa using h.1
    unfold putSel
    rw [up_ne he]
    exact putSel_skip h.2

set_option maxRecDepth 100000 in
set_option maxHeartbeats 16000000 in
theorem let_tail17 {W V : World} (hb : Below W.heap.size W V) (hr : Ready V) {X10 X11 X12 L ci p2 p3 e2 e3 q2 q3 f2 f3 : Nat} {Ai P2 P3 Q2 Q3 : Option Addr} {p0 p1 q0 q1 : Int} {pa pb pc : PEnd} (ha : EndAt V X12 pa)
    (hS : ∀ V2, Below V.heap.size V V2 → V2.cell? ⟨X10, 0, none⟩ = some (.int .i64 p0) ∧ V2.cell? ⟨X10, 1, none⟩ = some (.int .i64 p1) ∧ V2.cell? ⟨X10, 2, none⟩ = some (.slice P2 p2 e2) ∧ V2.cell? ⟨X10, 3, none⟩ = some (.slice P3 p3 e3) ∧ V2.cell? ⟨X11, 0, none⟩ = some (.int .i64 q0) ∧ V2.cell? ⟨X11, 1, none⟩ = some (.int .i64 q1) ∧ V2.cell? ⟨X11, 2, none⟩ = some (.slice Q2 q2 f2) ∧ V2.cell? ⟨X11, 3, none⟩ = some (.slice Q3 q3 f3))
    (hrb : ∀ V2, Below V.heap.size V V2 → Calls Tryd.prog 9 #[.agg #[.int .i64 p0, .int .i64 p1, .slice P2 p2 e2, .slice P3 p3 e3], .slice Ai L ci, .int .i64 1003] V2 (RunPost pb V2))
    (hrc : ∀ V2, Below V.heap.size V V2 → Calls Tryd.prog 9 #[.agg #[.int .i64 q0, .int .i64 q1, .slice Q2 q2 f2, .slice Q3 q3 f3], .slice Ai L ci, .int .i64 1002] V2 (RunPost pc V2))
    (h1 : sameE pa pb = true) (h2 : pb.steps = pa.steps + 3) (h3 : sameE pa pc = true) (h4 : pa.kind = 1 → pc.steps = pa.steps + 2) (hsm : pa.steps ≤ 1000000) (u0 u2 u3 u4 u5 u6 u7 u8 u9 u13 u14 u15 u16 u17 u18 u19 u20 u21 u22 u23 u24 u25 u26 u27 u28 u29 u30 u31 u32 u33 u34 u35 u36 u37 u38 u39 u40 u41 u42 u43 u44 u45 u46 u47 u48 u49 u50 u51 u52 u53 u54 u55 u56 u57 u58 u59 u60 u61 u62 u63 u64 u65 u66 u67 u68 u69 u70 u71 u72 u73 u74 u75 u76 u77 u78 u79 u80 u81 u82 u83 u84 u85 u86 u87 u88 u89 u90 u91 u92 u93 u94 u95 u96 u97 u98 u99 u100 u101 u102 u103 u104 u105 u106 u107 u108 u109 u110 : Value) :
    ∀ K : Act → World → Prop, (∀ a w, letT18.wp Tryd.prog (bodyPost Tryd.prog Tryd.f5 (BoolBelow true W)) a w → K a w) → letR17.wp Tryd.prog (Exit.then K (bodyPost Tryd.prog Tryd.f5 (BoolBelow true W))) { tmps := #[u0, .slice Ai L ci, u2, u3, u4, u5, u6, u7, u8, u9, .pointer (some ⟨X10, 0, none⟩), .pointer (some ⟨X11, 0, none⟩), .pointer (some ⟨X12, 0, none⟩), u13, u14, u15, u16, u17, u18, u19, u20, u21, u22, u23, u24, u25, u26, u27, u28, u29, u30, u31, u32, u33, u34, u35, u36, u37, u38, u39, u40, u41, u42, u43, u44, u45, u46, u47, u48, u49, u50, u51, u52, u53, u54, u55, u56, u57, u58, u59, u60, u61, u62, u63, u64, u65, u66, u67, u68, u69, u70, u71, u72, u73, u74, u75, u76, u77, u78, u79, u80, u81, u82, u83, u84, u85, u86, u87, u88, u89, u90, u91, u92, u93, u94, u95, u96, u97, u98, u99, u100, u101, u102, u103, u104, u105, u106, u107, u108, u109, u110], defers := [] } V := by
  intro K hK0
  have HK0 := Lib.hid hK0
  clear hK0
  have HEND := Lib.hid (fun (V2 : World) (X13 X14 : Nat) (hv : Below V.heap.size V V2) (he : EndAt V2 X13 pb) (hf : EndAt V2 X14 pc) (y0 y1 y2 y3 y4 y5 y6 y7 y8 y9 y10 y11 y15 y16 y17 y18 y19 y20 y21 y22 y23 y24 y25 y26 y27 y28 y29 y30 y31 y32 y33 y34 y35 y36 y37 y38 y39 y40 y41 y42 y43 y44 y45 y46 y47 y48 y49 y50 y51 y52 y53 y54 y55 y56 y57 y58 y59 y60 y61 y62 y63 y64 y65 y66 y67 y68 y69 y70 y71 y72 y73 y74 y75 y76 y77 y78 y79 y80 y81 y82 y83 y84 y85 y86 y87 y88 y89 y90 y91 y92 y93 y94 y95 y96 y97 y98 y99 y100 y101 y102 y103 y104 y105 y106 y107 y108 y109 y110 : Value) =>
    (show letT18.wp Tryd.prog (bodyPost Tryd.prog Tryd.f5 (BoolBelow true W)) { tmps := #[y0, y1, y2, y3, y4, y5, y6, y7, y8, y9, y10, y11, .pointer (some ⟨X12, 0, none⟩), .pointer (some ⟨X13, 0, none⟩), .pointer (some ⟨X14, 0, none⟩), y15, y16, y17, y18, y19, y20, y21, y22, y23, y24, y25, y26, y27, y28, y29, y30, y31, y32, y33, y34, y35, y36, y37, y38, y39, y40, y41, y42, y43, y44, y45, y46, y47, y48, y49, y50, y51, y52, y53, y54, y55, y56, y57, y58, y59, y60, y61, y62, y63, y64, y65, y66, y67, y68, y69, y70, y71, y72, y73, y74, y75, y76, y77, y78, y79, y80, y81, y82, y83, y84, y85, y86, y87, y88, y89, y90, y91, y92, y93, y94, y95, y96, y97, y98, y99, y100, y101, y102, y103, y104, y105, y106, y107, y108, y109, y110], defers := [] } V2 from
      let_tail18 (hb.trans (hv.mono hb.size)) (hr.below hv) (ha.below hv) he hf h1 h2 h3 h4 hsm _ _ _ _ _ _ _ _ _ _ _ _ _ _ _ _ _ _ _ _ _ _ _ _ _ _ _ _ _ _ _ _ _ _ _ _ _ _ _ _ _ _ _ _ _ _ _ _ _ _ _ _ _ _ _ _ _ _ _ _ _ _ _ _ _ _ _ _ _ _ _ _ _ _ _ _ _ _ _ _ _ _ _ _ _ _ _ _ _ _ _ _ _ _ _ _ _ _ _ _ _ _ _ _ _ _ _ _))
  have HS := Lib.hid (fun (V2 : World) (h : Below V.heap.size V V2) => hS V2 h)
  have HRB := Lib.hid hrb
  have HRC := Lib.hid hrc
  have D0 := Lib.hid (show Below V.heap.size V V.drew from (Below.refl _ _).drew)
  clear hS hrb hrc hb hr ha h1 h2 h3 h4 hsm
  unfold letR17 Tryd.f5
  dsimp only
  refine start_ (n := 10) (S := fun w' => True) (ds := []) #[false, false, false, false, false, false, false, false, false, false] (by kernel_rfl) rfl rfl trivial (fun hHeld => ?_)
  clear hHeld
  refine inv_at (B := [0, 0, 3, 0, 0, 24, 0, 0, 199, 504]) [0, 1, 2, 3, 4, 5, 6, 7, 8, 9] (fun a0_ b a w' => ∃ A1 c1 A2 c2 X Y, a = putSel a0_ b [(0, 73, .agg #[.int .i64 p0, .int .i64 p1, .slice P2 p2 e2, .slice P3 p3 e3]), (1, 74, .slice Ai L ci), (2, 75, .agg #[.int .i64 pb.kind, .int .i64 pb.n, .slice A1 pb.out.length c1, .int .i64 pb.steps]), (3, 76, .agg #[.int .i64 q0, .int .i64 q1, .slice Q2 q2 f2, .slice Q3 q3 f3]), (4, 77, .slice Ai L ci), (5, 78, .agg #[.int .i64 pc.kind, .int .i64 pc.n, .slice A2 pc.out.length c2, .int .i64 pc.steps]), (6, 13, .pointer (some ⟨X, 0, none⟩)), (7, 14, .pointer (some ⟨Y, 0, none⟩))] ∧ TwoR V pb pc b A1 A2 c1 c2 X Y w') rfl (by kernel_rfl) (by kernel_rfl) (by kernel_rfl) ?_ ?_ ?_
  · exact ⟨none, 0, none, 0, 0, 0, by simp only [putSel, Bool.false_eq_true, if_false], TwoR.start D0.out⟩
  · skip
    refine steps_cons ?_ ?_
    · rintro b a w' ⟨A1, c1, A2, c2, X, Y, ha, hI⟩ hb_ hon hoff
      refine ⟨_, rfl, fun K hK => ?_⟩
      have e10 : a.tmps[10]? = some (.pointer (some ⟨X10, 0, none⟩)) := by rw [ha]; exact (putSel_off rfl).trans rfl
      obtain ⟨z0, z1, z2, z3, z4, z5, z6, z7⟩ := HS.out w' hI.bel
      replace ha := Lib.hid ha
      have HI := Lib.hid hI
      clear hI
      refine value_ (w1 := w') (v := .agg #[.int .i64 p0, .int .i64 p1, .slice P2 p2 e2, .slice P3 p3 e3]) (by rfl) rfl ?_ ?_
      · go_simp
        try rfl
      exact hK.out _ _ ⟨A1, c1, A2, c2, X, Y, (by rw [ha.out]; exact putSel_upk 0 hb_ rfl rfl rfl), HI.out.pass (by omega)⟩
    refine steps_cons ?_ ?_
    · rintro b a w' ⟨A1, c1, A2, c2, X, Y, ha, hI⟩ hb_ hon hoff
      refine ⟨_, rfl, fun K hK => ?_⟩
      have e1 : a.tmps[1]? = some (.slice Ai L ci) := by rw [ha]; exact (putSel_off rfl).trans rfl
      replace ha := Lib.hid ha
      have HI := Lib.hid hI
      clear hI
      refine value_ (w1 := w') (v := .slice Ai L ci) (by rfl) rfl ?_ ?_
      · go_simp
        try rfl
      exact hK.out _ _ ⟨A1, c1, A2, c2, X, Y, (by rw [ha.out]; exact putSel_upk 1 hb_ rfl rfl rfl), HI.out.pass (by omega)⟩
    refine steps_cons ?_ ?_
    · rintro b a w' ⟨A1, c1, A2, c2, X, Y, ha, hI⟩ hb_ hon hoff
      refine ⟨_, rfl, fun K hK => ?_⟩
      have e73 : a.tmps[73]? = some (.agg #[.int .i64 p0, .int .i64 p1, .slice P2 p2 e2, .slice P3 p3 e3]) := by rw [ha]; exact putSel_on (e := (0, 73, .agg #[.int .i64 p0, .int .i64 p1, .slice P2 p2 e2, .slice P3 p3 e3])) 0 rfl rfl (hon 0 (by kernel_rfl)) rfl
      have e74 : a.tmps[74]? = some (.slice Ai L ci) := by rw [ha]; exact putSel_on (e := (1, 74, .slice Ai L ci)) 1 rfl rfl (hon 1 (by kernel_rfl)) rfl
      replace ha := Lib.hid ha
      have HI := Lib.hid hI
      clear hI
      refine goes_ Tryd.func9 (by kernel_rfl) rfl #[.agg #[.int .i64 p0, .int .i64 p1, .slice P2 p2 e2, .slice P3 p3 e3], .slice Ai L ci, .int .i64 1003] (by rfl) rfl rfl (by first | (simp only [List.map_toArray, List.map_cons, List.map_nil, Act.eval, Array.getD_eq_getD_getElem?, Option.getD_some, e73, e74]; done) | (simp only [List.map_toArray, List.map_cons, List.map_nil, Act.eval, Array.getD_eq_getD_getElem?, Option.getD_some, e73, e74]; rfl)) ?_
      refine (HRB.out w' HI.out.bel).mono ?_
      rintro e w2 ⟨v, A, c, rfl, rfl, hE, hb2, hlo⟩
      obtain ⟨A', c', heq, hi⟩ := hE
      simp only [Value.agg.injEq, Array.mk.injEq, List.cons.injEq, Value.slice.injEq, true_and, and_true] at heq
      obtain ⟨rfl, rfl⟩ := heq
      exact ⟨_, rfl, hK.out _ _ ⟨A, c, A2, c2, X, Y, (by rw [ha.out]; exact putSel_upk 2 hb_ rfl rfl rfl), HI.out.run1 (hoff 8 (by kernel_rfl)) hb2 hi hlo⟩⟩
    refine steps_cons ?_ ?_
    · rintro b a w' ⟨A1, c1, A2, c2, X, Y, ha, hI⟩ hb_ hon hoff
      refine ⟨_, rfl, fun K hK => ?_⟩
      have e11 : a.tmps[11]? = some (.pointer (some ⟨X11, 0, none⟩)) := by rw [ha]; exact (putSel_off rfl).trans rfl
      obtain ⟨z0, z1, z2, z3, z4, z5, z6, z7⟩ := HS.out w' hI.bel
      replace ha := Lib.hid ha
      have HI := Lib.hid hI
      clear hI
      refine value_ (w1 := w') (v := .agg #[.int .i64 q0, .int .i64 q1, .slice Q2 q2 f2, .slice Q3 q3 f3]) (by rfl) rfl ?_ ?_
      · go_simp
        try rfl
      exact hK.out _ _ ⟨A1, c1, A2, c2, X, Y, (by rw [ha.out]; exact putSel_upk 3 hb_ rfl rfl rfl), HI.out.pass (by omega)⟩
    refine steps_cons ?_ ?_
    · rintro b a w' ⟨A1, c1, A2, c2, X, Y, ha, hI⟩ hb_ hon hoff
      refine ⟨_, rfl, fun K hK => ?_⟩
      have e1 : a.tmps[1]? = some (.slice Ai L ci) := by rw [ha]; exact (putSel_off rfl).trans rfl
      replace ha := Lib.hid ha
      have HI := Lib.hid hI
      clear hI
      refine value_ (w1 := w') (v := .slice Ai L ci) (by rfl) rfl ?_ ?_
      · go_simp
        try rfl
      exact hK.out _ _ ⟨A1, c1, A2, c2, X, Y, (by rw [ha.out]; exact putSel_upk 4 hb_ rfl rfl rfl), HI.out.pass (by omega)⟩
    refine steps_cons ?_ ?_
    · rintro b a w' ⟨A1, c1, A2, c2, X, Y, ha, hI⟩ hb_ hon hoff
      refine ⟨_, rfl, fun K hK => ?_⟩
      have e76 : a.tmps[76]? = some (.agg #[.int .i64 q0, .int .i64 q1, .slice Q2 q2 f2, .slice Q3 q3 f3]) := by rw [ha]; exact putSel_on (e := (3, 76, .agg #[.int .i64 q0, .int .i64 q1, .slice Q2 q2 f2, .slice Q3 q3 f3])) 3 rfl rfl (hon 3 (by kernel_rfl)) rfl
      have e77 : a.tmps[77]? = some (.slice Ai L ci) := by rw [ha]; exact putSel_on (e := (4, 77, .slice Ai L ci)) 4 rfl rfl (hon 4 (by kernel_rfl)) rfl
      replace ha := Lib.hid ha
      have HI := Lib.hid hI
      clear hI
      refine goes_ Tryd.func9 (by kernel_rfl) rfl #[.agg #[.int .i64 q0, .int .i64 q1, .slice Q2 q2 f2, .slice Q3 q3 f3], .slice Ai L ci, .int .i64 1002] (by rfl) rfl rfl (by first | (simp only [List.map_toArray, List.map_cons, List.map_nil, Act.eval, Array.getD_eq_getD_getElem?, Option.getD_some, e76, e77]; done) | (simp only [List.map_toArray, List.map_cons, List.map_nil, Act.eval, Array.getD_eq_getD_getElem?, Option.getD_some, e76, e77]; rfl)) ?_
      refine (HRC.out w' HI.out.bel).mono ?_
      rintro e w2 ⟨v, A, c, rfl, rfl, hE, hb2, hlo⟩
      obtain ⟨A', c', heq, hi⟩ := hE
      simp only [Value.agg.injEq, Array.mk.injEq, List.cons.injEq, Value.slice.injEq, true_and, and_true] at heq
      obtain ⟨rfl, rfl⟩ := heq
      exact ⟨_, rfl, hK.out _ _ ⟨A1, c1, A, c, X, Y, (by rw [ha.out]; exact putSel_upk 5 hb_ rfl rfl rfl), HI.out.run2 (hoff 9 (by kernel_rfl)) hb2 hi hlo⟩⟩
    refine steps_cons ?_ ?_
    · rintro b a w' ⟨A1, c1, A2, c2, X, Y, ha, hI⟩ hb_ hon hoff
      refine ⟨_, rfl, fun K hK => ?_⟩
      replace ha := Lib.hid ha
      have HI := Lib.hid hI
      clear hI
      refine value_ (w1 := w'.alloc (.cells #[.int .i64 0, .int .i64 0, .slice none 0 0, .int .i64 0] 31)) (v := .pointer (some ⟨w'.heap.size, 0, none⟩)) (by rfl) rfl ?_ ?_
      · go_simp
        try rfl
      exact hK.out _ _ ⟨A1, c1, A2, c2, w'.heap.size, Y, (by rw [ha.out]; exact putSel_upk 6 hb_ rfl rfl rfl), HI.out.new1 (hoff 8 (by kernel_rfl))⟩
    refine steps_cons ?_ ?_
    · rintro b a w' ⟨A1, c1, A2, c2, X, Y, ha, hI⟩ hb_ hon hoff
      refine ⟨_, rfl, fun K hK => ?_⟩
      replace ha := Lib.hid ha
      have HI := Lib.hid hI
      clear hI
      refine value_ (w1 := w'.alloc (.cells #[.int .i64 0, .int .i64 0, .slice none 0 0, .int .i64 0] 31)) (v := .pointer (some ⟨w'.heap.size, 0, none⟩)) (by rfl) rfl ?_ ?_
      · go_simp
        try rfl
      exact hK.out _ _ ⟨A1, c1, A2, c2, X, w'.heap.size, (by rw [ha.out]; exact putSel_upk 7 hb_ rfl rfl rfl), HI.out.new2 (hoff 9 (by kernel_rfl))⟩
    refine steps_cons ?_ ?_
    · rintro b a w' ⟨A1, c1, A2, c2, X, Y, ha, hI⟩ hb_ hon hoff
      refine ⟨_, rfl, fun K hK => ?_⟩
      have e75 : a.tmps[75]? = some (.agg #[.int .i64 pb.kind, .int .i64 pb.n, .slice A1 pb.out.length c1, .int .i64 pb.steps]) := by rw [ha]; exact putSel_on (e := (2, 75, .agg #[.int .i64 pb.kind, .int .i64 pb.n, .slice A1 pb.out.length c1, .int .i64 pb.steps])) 2 rfl rfl (hon 2 (by kernel_rfl)) rfl
      have e13 : a.tmps[13]? = some (.pointer (some ⟨X, 0, none⟩)) := by rw [ha]; exact putSel_on (e := (6, 13, .pointer (some ⟨X, 0, none⟩))) 6 rfl rfl (hon 6 (by kernel_rfl)) rfl
      obtain ⟨y0, y1, y2, y3, y4⟩ := ((hI.x1 (hon 6 (by kernel_rfl))).2.2 hb_).cells
      replace ha := Lib.hid ha
      have HI := Lib.hid hI
      clear hI
      refine skip_ (w1 := set4 w' X pb A1 c1) (by rfl) rfl ?_ ?_
      · unfold set4
        go_simp
        try rfl
      exact hK.out _ _ ⟨A1, c1, A2, c2, X, Y, (by rw [ha.out]; exact (putSel_skip rfl).symm), HI.out.lay1 (hon 2 (by kernel_rfl)) (hon 6 (by kernel_rfl)) (hon 7 (by kernel_rfl)) hb_ (hoff 9 (by kernel_rfl))⟩
    refine steps_cons ?_ ?_
    · rintro b a w' ⟨A1, c1, A2, c2, X, Y, ha, hI⟩ hb_ hon hoff
      refine ⟨_, rfl, fun K hK => ?_⟩
      have e78 : a.tmps[78]? = some (.agg #[.int .i64 pc.kind, .int .i64 pc.n, .slice A2 pc.out.length c2, .int .i64 pc.steps]) := by rw [ha]; exact putSel_on (e := (5, 78, .agg #[.int .i64 pc.kind, .int .i64 pc.n, .slice A2 pc.out.length c2, .int .i64 pc.steps])) 5 rfl rfl (hon 5 (by kernel_rfl)) rfl
      have e14 : a.tmps[14]? = some (.pointer (some ⟨Y, 0, none⟩)) := by rw [ha]; exact putSel_on (e := (7, 14, .pointer (some ⟨Y, 0, none⟩))) 7 rfl rfl (hon 7 (by kernel_rfl)) rfl
      obtain ⟨y0, y1, y2, y3, y4⟩ := ((hI.x2 (hon 7 (by kernel_rfl))).2.2 hb_).cells
      replace ha := Lib.hid ha
      have HI := Lib.hid hI
      clear hI
      refine skip_ (w1 := set4 w' Y pc A2 c2) (by rfl) rfl ?_ ?_
      · unfold set4
        go_simp
        try rfl
      exact hK.out _ _ ⟨A1, c1, A2, c2, X, Y, (by rw [ha.out]; exact (putSel_skip rfl).symm), HI.out.lay2 (hon 5 (by kernel_rfl)) (hon 6 (by kernel_rfl)) (hon 7 (by kernel_rfl)) (hon 8 (by kernel_rfl)) hb_⟩
    exact steps_nil
  rintro b a w' hall ⟨A1, c1, A2, c2, X, Y, ha, hI⟩
  have hl : ∀ j, j ≤ 9 → b j = true := fun j hj => hall j (by
    have : j = 0 ∨ j = 1 ∨ j = 2 ∨ j = 3 ∨ j = 4 ∨ j = 5 ∨ j = 6 ∨ j = 7 ∨ j = 8 ∨ j = 9 := by omega
    rcases this with rfl | rfl | rfl | rfl | rfl | rfl | rfl | rfl | rfl | rfl <;> rfl)
  have b0 := hl 0 (by decide)
  have b1 := hl 1 (by decide)
  have b2 := hl 2 (by decide)
  have b3 := hl 3 (by decide)
  have b4 := hl 4 (by decide)
  have b5 := hl 5 (by decide)
  have b6 := hl 6 (by decide)
  have b7 := hl 7 (by decide)
  obtain ⟨g1, g2, g3⟩ := hI.ends b2 b5 (hl 8 (by decide)) (hl 9 (by decide))
  subst ha
  simp only [putSel, b0, b1, b2, b3, b4, b5, b6, b7, if_true, Act.put, List.setIfInBounds_toArray, List.set_cons_zero, List.set_cons_succ, Exit.then]
  exact HK0.out _ _ (HEND.out _ _ _ g1 g2 g3 _ _ _ _ _ _ _ _ _ _ _ _ _ _ _ _ _ _ _ _ _ _ _ _ _ _ _ _ _ _ _ _ _ _ _ _ _ _ _ _ _ _ _ _ _ _ _ _ _ _ _ _ _ _ _ _ _ _ _ _ _ _ _ _ _ _ _ _ _ _ _ _ _ _ _ _ _ _ _ _ _ _ _ _ _ _ _ _ _ _ _ _ _ _ _ _ _ _ _ _ _ _ _ _ _ _ _ _)
end Go.Proofs.YtnolhcdfknjncaaDoor

/-
  CevalLet: its guards behind the making of the terms, and its first run.
-/
set_option linter.unusedVariables false
set_option linter.unusedSimpArgs false
namespace Go.Proofs.YtnolhcdfknjncaaDoor
open Go.RowKit


theorem fin2 {W V U U2 : World} (h1 : Below W.heap.size W V) (h2 : Below V.heap.size V U) (h3 : Below U.heap.size U U2) : Below W.heap.size W U2 := (h1.trans (h2.mono h1.size)).trans (h3.mono (Nat.le_trans h1.size h2.size))
theorem bel_new {V U : World} (h : Below V.heap.size V U) (o : Obj) : Below V.heap.size V (U.alloc o) := h.alloc h.size o
set_option maxRecDepth 100000 in
set_option maxHeartbeats 16000000 in
theorem let_tail12 {W V : World} (hb : Below W.heap.size W V) (hr : Ready V) {X3 X10 X11 L ci t2 t3 g2 g3 p2 p3 e2 e3 q2 q3 f2 f3 : Nat} {Ai T2 T3 P2 P3 Q2 Q3 : Option Addr} {t0 t1 p0 p1 q0 q1 ra rl : Int} {pa pb pc : PEnd}
    (hS : ∀ V2, Below V.heap.size V V2 → V2.cell? ⟨X3, 0, none⟩ = some (.int .i64 t0) ∧ V2.cell? ⟨X3, 1, none⟩ = some (.int .i64 t1) ∧ V2.cell? ⟨X3, 2, none⟩ = some (.slice T2 t2 g2) ∧ V2.cell? ⟨X3, 3, none⟩ = some (.slice T3 t3 g3) ∧ V2.cell? ⟨X10, 0, none⟩ = some (.int .i64 p0) ∧ V2.cell? ⟨X10, 1, none⟩ = some (.int .i64 p1) ∧ V2.cell? ⟨X10, 2, none⟩ = some (.slice P2 p2 e2) ∧ V2.cell? ⟨X10, 3, none⟩ = some (.slice P3 p3 e3) ∧ V2.cell? ⟨X11, 0, none⟩ = some (.int .i64 q0) ∧ V2.cell? ⟨X11, 1, none⟩ = some (.int .i64 q1) ∧ V2.cell? ⟨X11, 2, none⟩ = some (.slice Q2 q2 f2) ∧ V2.cell? ⟨X11, 3, none⟩ = some (.slice Q3 q3 f3))
    (hra : ∀ V2, Below V.heap.size V V2 → Calls Tryd.prog 15 #[.agg #[.int .i64 p0, .int .i64 p1, .slice P2 p2 e2, .slice P3 p3 e3]] V2 fun e w' => e = .returned (.int .i64 ra) ∧ Below V2.heap.size V2 w') (hrl : ∀ V2, Below V.heap.size V V2 → Calls Tryd.prog 15 #[.agg #[.int .i64 q0, .int .i64 q1, .slice Q2 q2 f2, .slice Q3 q3 f3]] V2 fun e w' => e = .returned (.int .i64 rl) ∧ Below V2.heap.size V2 w')
    (hrt : ∀ V2, Below V.heap.size V V2 → Calls Tryd.prog 9 #[.agg #[.int .i64 t0, .int .i64 t1, .slice T2 t2 g2, .slice T3 t3 g3], .slice Ai L ci, .int .i64 1000] V2 (RunPost pa V2)) (hrb : ∀ V2, Below V.heap.size V V2 → Calls Tryd.prog 9 #[.agg #[.int .i64 p0, .int .i64 p1, .slice P2 p2 e2, .slice P3 p3 e3], .slice Ai L ci, .int .i64 1003] V2 (RunPost pb V2)) (hrc : ∀ V2, Below V.heap.size V V2 → Calls Tryd.prog 9 #[.agg #[.int .i64 q0, .int .i64 q1, .slice Q2 q2 f2, .slice Q3 q3 f3], .slice Ai L ci, .int .i64 1002] V2 (RunPost pc V2))
    (hlaw : ra = 0 → rl = 0 → pa.kind ≠ 3 → sameE pa pb = true ∧ pb.steps = pa.steps + 3 ∧ sameE pa pc = true ∧ (pa.kind = 1 → pc.steps = pa.steps + 2)) (hsm : pa.steps ≤ 1000000) (u0 u2 u4 u5 u6 u7 u8 u9 u12 u13 u14 u15 u16 u17 u18 u19 u20 u21 u22 u23 u24 u25 u26 u27 u28 u29 u30 u31 u32 u33 u34 u35 u36 u37 u38 u39 u40 u41 u42 u43 u44 u45 u46 u47 u48 u49 u50 u51 u52 u53 u54 u55 u56 u57 u58 u59 u60 u61 u62 u63 u64 u65 u66 u67 u68 u69 u70 u71 u72 u73 u74 u75 u76 u77 u78 u79 u80 u81 u82 u83 u84 u85 u86 u87 u88 u89 u90 u91 u92 u93 u94 u95 u96 u97 u98 u99 u100 u101 u102 u103 u104 u105 u106 u107 u108 u109 u110 : Value) :
    letT12.wp Tryd.prog (bodyPost Tryd.prog Tryd.f5 (BoolBelow true W)) { tmps := #[u0, .slice Ai L ci, u2, .pointer (some ⟨X3, 0, none⟩), u4, u5, u6, u7, u8, u9, .pointer (some ⟨X10, 0, none⟩), .pointer (some ⟨X11, 0, none⟩), u12, u13, u14, u15, u16, u17, u18, u19, u20, u21, u22, u23, u24, u25, u26, u27, u28, u29, u30, u31, u32, u33, u34, u35, u36, u37, u38, u39, u40, u41, u42, u43, u44, u45, u46, u47, u48, u49, u50, u51, u52, u53, u54, u55, u56, u57, u58, u59, u60, u61, u62, u63, u64, u65, u66, u67, u68, u69, u70, u71, u72, u73, u74, u75, u76, u77, u78, u79, u80, u81, u82, u83, u84, u85, u86, u87, u88, u89, u90, u91, u92, u93, u94, u95, u96, u97, u98, u99, u100, u101, u102, u103, u104, u105, u106, u107, u108, u109, u110], defers := [] } V := by
  have HS := Lib.hid hS
  have HRA := Lib.hid (hra V (Below.refl _ _))
  have HRL := Lib.hid hrl
  have HRT := Lib.hid hrt
  have HK := Lib.hid (fun (V2 : World) (h : Below V.heap.size V V2) => knows_any V2 (hr.below h))
  have HB := Lib.hid hb
  have HGO := Lib.hid (fun (hra0 : ra = 0) (hrl0 : rl = 0) (hk : pa.kind ≠ 3) (V3 : World) (X12 : Nat) (h : Below V.heap.size V V3) (he : EndAt V3 X12 pa) (y0 y2 y3 y4 y5 y6 y7 y8 y9 y13 y14 y15 y16 y17 y18 y19 y20 y21 y22 y23 y24 y25 y26 y27 y28 y29 y30 y31 y32 y33 y34 y35 y36 y37 y38 y39 y40 y41 y42 y43 y44 y45 y46 y47 y48 y49 y50 y51 y52 y53 y54 y55 y56 y57 y58 y59 y60 y61 y62 y63 y64 y65 y66 y67 y68 y69 y70 y71 y72 y73 y74 y75 y76 y77 y78 y79 y80 y81 y82 y83 y84 y85 y86 y87 y88 y89 y90 y91 y92 y93 y94 y95 y96 y97 y98 y99 y100 y101 y102 y103 y104 y105 y106 y107 y108 y109 y110 : Value) =>
    (show ∀ K : Act → World → Prop, (∀ a w, letT18.wp Tryd.prog (bodyPost Tryd.prog Tryd.f5 (BoolBelow true W)) a w → K a w) → letR17.wp Tryd.prog (Exit.then K (bodyPost Tryd.prog Tryd.f5 (BoolBelow true W))) { tmps := #[y0, .slice Ai L ci, y2, y3, y4, y5, y6, y7, y8, y9, .pointer (some ⟨X10, 0, none⟩), .pointer (some ⟨X11, 0, none⟩), .pointer (some ⟨X12, 0, none⟩), y13, y14, y15, y16, y17, y18, y19, y20, y21, y22, y23, y24, y25, y26, y27, y28, y29, y30, y31, y32, y33, y34, y35, y36, y37, y38, y39, y40, y41, y42, y43, y44, y45, y46, y47, y48, y49, y50, y51, y52, y53, y54, y55, y56, y57, y58, y59, y60, y61, y62, y63, y64, y65, y66, y67, y68, y69, y70, y71, y72, y73, y74, y75, y76, y77, y78, y79, y80, y81, y82, y83, y84, y85, y86, y87, y88, y89, y90, y91, y92, y93, y94, y95, y96, y97, y98, y99, y100, y101, y102, y103, y104, y105, y106, y107, y108, y109, y110], defers := [] } V3 from
      let_tail17 (hb.trans (h.mono hb.size)) (hr.below h) he (fun V2 h2 => (hS V2 (h.trans (h2.mono h.size))).2.2.2.2) (fun V2 h2 => hrb V2 (h.trans (h2.mono h.size))) (fun V2 h2 => hrc V2 (h.trans (h2.mono h.size))) (hlaw hra0 hrl0 hk).1 (hlaw hra0 hrl0 hk).2.1 (hlaw hra0 hrl0 hk).2.2.1 (hlaw hra0 hrl0 hk).2.2.2 hsm _ _ _ _ _ _ _ _ _ _ _ _ _ _ _ _ _ _ _ _ _ _ _ _ _ _ _ _ _ _ _ _ _ _ _ _ _ _ _ _ _ _ _ _ _ _ _ _ _ _ _ _ _ _ _ _ _ _ _ _ _ _ _ _ _ _ _ _ _ _ _ _ _ _ _ _ _ _ _ _ _ _ _ _ _ _ _ _ _ _ _ _ _ _ _ _ _ _ _ _ _ _ _ _ _ _ _))
  obtain ⟨z0, z1, z2, z3, z4, z5, z6, z7, z8, z9, z10, z11⟩ := hS V (Below.refl _ _)
  clear hS hra hrl hrt hrb hrc hb hr hlaw hsm
  by_cases hra0 : ra = 0
  · have hb1 : (ra == 0) = true := by simpa using hra0
    have hb2 : (ra != 0) = false := by simpa using hra0
    by_cases hrl0 : rl = 0
    · have hc1 : (rl == 0) = true := by simpa using hrl0
      have hc2 : (rl != 0) = false := by simpa using hrl0
      by_cases hk : pa.kind = 3
      · have hk1 : (pa.kind == 3) = true := by simpa using hk
        clear HGO hra0 hrl0 hk
        unfold letT12 Tryd.f5
        dsimp only
        go_wp2_with (first
        | (go_at_call 15; (with_reducible refine HRA.out.mono ?_); rintro en w1 ⟨rfl, hb1⟩; have HB1 := Lib.hid hb1; clear hb1; obtain ⟨x0, x1, x2, x3, x4, x5, x6, x7, x8, x9, x10, x11⟩ := HS.out w1 HB1.out)
        | (go_at_call 15; refine (HRL.out _ HB1.out).mono ?_; rintro en w2 ⟨rfl, hb2⟩; have HB2 := Lib.hid (HB1.out.trans (hb2.mono HB1.out.size)); clear hb2; obtain ⟨y0, y1, y2, y3, y4, y5, y6, y7, y8, y9, y10, y11⟩ := HS.out w2 HB2.out)
        | (go_at_call 9; refine (HRT.out _ HB2.out).mono ?_; rintro en w3 ⟨v, A, c, rfl, rfl, hE, hb3, hlo⟩; have HE := Lib.hid hE; have HB3 := Lib.hid (HB2.out.trans (hb3.mono HB2.out.size)); clear hE hb3 hlo)
        | (go_at_call 8; (first | refine (HK.out _ (bel_new HB3.out _)).mono ?_ | refine (HK.out _ HB2.out).mono ?_ | refine (HK.out _ HB1.out).mono ?_); rintro en w4 ⟨rfl, hb4⟩; have HB4 := Lib.hid hb4; clear hb4))
        go_ret
        exact ⟨rfl, fin2 HB.out (bel_new HB3.out _) HB4.out⟩
      · have hk1 : (pa.kind == 3) = false := by simpa using hk
        have HGO2 := Lib.hid (HGO.out hra0 hrl0 hk)
        clear HGO hra0 hrl0 hk
        unfold letT12 Tryd.f5
        dsimp only
        go_wp2_with (first
        | (go_at_call 15; (with_reducible refine HRA.out.mono ?_); rintro en w1 ⟨rfl, hb1⟩; have HB1 := Lib.hid hb1; clear hb1; obtain ⟨x0, x1, x2, x3, x4, x5, x6, x7, x8, x9, x10, x11⟩ := HS.out w1 HB1.out)
        | (go_at_call 15; refine (HRL.out _ HB1.out).mono ?_; rintro en w2 ⟨rfl, hb2⟩; have HB2 := Lib.hid (HB1.out.trans (hb2.mono HB1.out.size)); clear hb2; obtain ⟨y0, y1, y2, y3, y4, y5, y6, y7, y8, y9, y10, y11⟩ := HS.out w2 HB2.out)
        | (go_at_call 9; refine (HRT.out _ HB2.out).mono ?_; rintro en w3 ⟨v, A, c, rfl, rfl, hE, hb3, hlo⟩; have HE := Lib.hid hE; have HB3 := Lib.hid (HB2.out.trans (hb3.mono HB2.out.size)); clear hE hb3 hlo)
        | (go_at_call 8; (first | refine (HK.out _ (bel_new HB3.out _)).mono ?_ | refine (HK.out _ HB2.out).mono ?_ | refine (HK.out _ HB1.out).mono ?_); rintro en w4 ⟨rfl, hb4⟩; have HB4 := Lib.hid hb4; clear hb4))
        exact HGO2.out _ _ (bel_new HB3.out _) (end_new HE.out) _ _ _ _ _ _ _ _ _ _ _ _ _ _ _ _ _ _ _ _ _ _ _ _ _ _ _ _ _ _ _ _ _ _ _ _ _ _ _ _ _ _ _ _ _ _ _ _ _ _ _ _ _ _ _ _ _ _ _ _ _ _ _ _ _ _ _ _ _ _ _ _ _ _ _ _ _ _ _ _ _ _ _ _ _ _ _ _ _ _ _ _ _ _ _ _ _ _ _ _ _ _ _ _ _ _ _ _ ‹∀ (a : Act) (w : World), Code.wp Tryd.prog _ _ a w → _›
    · have hc1 : (rl == 0) = false := by simpa using hrl0
      have hc2 : (rl != 0) = true := by simpa using hrl0
      clear HGO hra0 hrl0
      unfold letT12 Tryd.f5
      dsimp only
      go_wp2_with (first
        | (go_at_call 15; (with_reducible refine HRA.out.mono ?_); rintro en w1 ⟨rfl, hb1⟩; have HB1 := Lib.hid hb1; clear hb1; obtain ⟨x0, x1, x2, x3, x4, x5, x6, x7, x8, x9, x10, x11⟩ := HS.out w1 HB1.out)
        | (go_at_call 15; refine (HRL.out _ HB1.out).mono ?_; rintro en w2 ⟨rfl, hb2⟩; have HB2 := Lib.hid (HB1.out.trans (hb2.mono HB1.out.size)); clear hb2; obtain ⟨y0, y1, y2, y3, y4, y5, y6, y7, y8, y9, y10, y11⟩ := HS.out w2 HB2.out)
        | (go_at_call 9; refine (HRT.out _ HB2.out).mono ?_; rintro en w3 ⟨v, A, c, rfl, rfl, hE, hb3, hlo⟩; have HE := Lib.hid hE; have HB3 := Lib.hid (HB2.out.trans (hb3.mono HB2.out.size)); clear hE hb3 hlo)
        | (go_at_call 8; (first | refine (HK.out _ (bel_new HB3.out _)).mono ?_ | refine (HK.out _ HB2.out).mono ?_ | refine (HK.out _ HB1.out).mono ?_); rintro en w4 ⟨rfl, hb4⟩; have HB4 := Lib.hid hb4; clear hb4))
      go_ret
      exact ⟨rfl, fin2 HB.out HB2.out HB4.out⟩
  · have hb1 : (ra == 0) = false := by simpa using hra0
    have hb2 : (ra != 0) = true := by simpa using hra0
    clear HGO hra0
    unfold letT12 Tryd.f5
    dsimp only
    go_wp2_with (first
        | (go_at_call 15; (with_reducible refine HRA.out.mono ?_); rintro en w1 ⟨rfl, hb1⟩; have HB1 := Lib.hid hb1; clear hb1; obtain ⟨x0, x1, x2, x3, x4, x5, x6, x7, x8, x9, x10, x11⟩ := HS.out w1 HB1.out)
        | (go_at_call 15; refine (HRL.out _ HB1.out).mono ?_; rintro en w2 ⟨rfl, hb2⟩; have HB2 := Lib.hid (HB1.out.trans (hb2.mono HB1.out.size)); clear hb2; obtain ⟨y0, y1, y2, y3, y4, y5, y6, y7, y8, y9, y10, y11⟩ := HS.out w2 HB2.out)
        | (go_at_call 9; refine (HRT.out _ HB2.out).mono ?_; rintro en w3 ⟨v, A, c, rfl, rfl, hE, hb3, hlo⟩; have HE := Lib.hid hE; have HB3 := Lib.hid (HB2.out.trans (hb3.mono HB2.out.size)); clear hE hb3 hlo)
        | (go_at_call 8; (first | refine (HK.out _ (bel_new HB3.out _)).mono ?_ | refine (HK.out _ HB2.out).mono ?_ | refine (HK.out _ HB1.out).mono ?_); rintro en w4 ⟨rfl, hb4⟩; have HB4 := Lib.hid hb4; clear hb4))
    go_ret
    exact ⟨rfl, fin2 HB.out HB1.out HB4.out⟩
end Go.Proofs.YtnolhcdfknjncaaDoor

/-
  CevalLet: the making of the second term.
-/
set_option linter.unusedVariables false
set_option linter.unusedSimpArgs false
namespace Go.Proofs.YtnolhcdfknjncaaDoor
open Go.RowKit


theorem run_steps (t : Core) (inp : List Int) : (runE t inp 1000).steps ≤ 1000000 := by
  have hf : fuelOf 1000 = 1000 := by decide
  unfold runE
  split
  · rw [hf]
    generalize runOut t inp 1000 = o
    obtain ⟨r, s⟩ := o
    cases r <;> simp only [endOf]
    · omega
    · split <;> (show 1000 - s.left ≤ 1000000) <;> omega
    · omega
    · omega
  · exact Nat.zero_le _
/-- what CevalLet asks of the three ends -/
theorem let_law {t : Core} {inp : List Int} {v : Int} (h0 : rightE t = 0) (hv : ¬ fr v t) (ha : rightR (appT v t) = 0) (hl : rightR (letT v t) = 0) (hk : (runE t inp 1000).kind ≠ 3) :
    sameE (runE t inp 1000) (runE (appT v t) inp 1003) = true ∧ (runE (appT v t) inp 1003).steps = (runE t inp 1000).steps + 3 ∧ sameE (runE t inp 1000) (runE (letT v t) inp 1002) = true ∧ ((runE t inp 1000).kind = 1 → (runE (letT v t) inp 1002).steps = (runE t inp 1000).steps + 2) := by
  have f0 : fuelOf 1000 = 1000 := by decide
  have f3 : fuelOf 1003 = 1000 + 3 := by decide
  have f2 : fuelOf 1002 = 1000 + 2 := by decide
  unfold runE runOut at *
  rw [if_pos h0, if_pos ((right_iff _).1 ha), if_pos ((right_iff _).1 hl), f0, f3, f2] at *
  obtain ⟨k, n, out, st, e1, e2, st', e3, e4⟩ := let_ends (inp := inp.take 4096) hv 1000 hk
  rw [e1, e2, e3]
  exact ⟨by simp [sameE], rfl, by simp [sameE], fun h => e4 h⟩
theorem hgt_app (v : Int) (t : Core) : (appT v t).hgt = t.hgt + 2 := by
  simp only [appT, Core.hgt, hgtL]; omega
theorem hgt_let (v : Int) (t : Core) : (letT v t).hgt ≤ t.hgt + 2 := by
  simp only [letT, Core.hgt, hgtL]; omega
/-- a box lies where it lay -/
theorem box_cells {V V2 : World} {X : Nat} {a b c d : Value} (h : V.heap[X]? = some (.cells #[a, b, c, d] 26 (0, 0))) (hb : Below V.heap.size V V2) : V2.cell? ⟨X, 0, none⟩ = some a ∧ V2.cell? ⟨X, 1, none⟩ = some b ∧ V2.cell? ⟨X, 2, none⟩ = some c ∧ V2.cell? ⟨X, 3, none⟩ = some d := by
  have h2 := (hb.block X (Array.getElem?_eq_some_iff.1 h).1).trans h
  simp [World.cell?, h2]
theorem letT10_eq : letT10 = Code.seq letR10 (Code.seq letR11 letT12) := rfl

set_option maxRecDepth 100000 in
set_option maxHeartbeats 8000000 in
theorem let_tail11 {W V : World} (hb : Below W.heap.size W V) (hr : Ready V) {t : Core} {v : Int} {X3 X10 ci : Nat} {Ai : Option Addr} {inp : List Int} {c0 c1 c2 c3 a0 a1 a2 a3 : Value}
    (hx3 : V.heap[X3]? = some (.cells #[c0, c1, c2, c3] 26 (0, 0))) (hx10 : V.heap[X10]? = some (.cells #[a0, a1, a2, a3] 26 (0, 0)))
    (ht : CoreIn V.heap.size V t #[c0, c1, c2, c3]) (ha : CoreIn V.heap.size V (appT v t) #[a0, a1, a2, a3]) (hi : IntsIn V.heap.size V Ai inp) (hci : inp.length ≤ ci) (hh : t.hgt ≤ 40000) (h0 : rightE t = 0) (hv : ¬ fr v t) (u0 u4 u5 u6 u7 u8 u9 u11 u12 u13 u14 u15 u16 u17 u18 u19 u20 u21 u22 u23 u24 u25 u26 u27 u28 u29 u30 u31 u32 u33 u34 u35 u36 u37 u38 u39 u40 u41 u42 u43 u44 u45 u46 u47 u48 u49 u50 u51 u52 u53 u54 u55 u56 u57 u58 u59 u60 u61 u62 u63 u64 u65 u66 u67 u68 u69 u70 u71 u72 u73 u74 u75 u76 u77 u78 u79 u80 u81 u82 u83 u84 u85 u86 u87 u88 u89 u90 u91 u92 u93 u94 u95 u96 u97 u98 u99 u100 u101 u102 u103 u104 u105 u106 u107 u108 u109 u110 : Value) :
    (Code.seq letR11 letT12).wp Tryd.prog (bodyPost Tryd.prog Tryd.f5 (BoolBelow true W)) { tmps := #[u0, .slice Ai inp.length ci, .int .i64 v, .pointer (some ⟨X3, 0, none⟩), u4, u5, u6, u7, u8, u9, .pointer (some ⟨X10, 0, none⟩), u11, u12, u13, u14, u15, u16, u17, u18, u19, u20, u21, u22, u23, u24, u25, u26, u27, u28, u29, u30, u31, u32, u33, u34, u35, u36, u37, u38, u39, u40, u41, u42, u43, u44, u45, u46, u47, u48, u49, u50, u51, u52, u53, u54, u55, u56, u57, u58, u59, u60, u61, u62, u63, u64, u65, u66, u67, u68, u69, u70, u71, u72, u73, u74, u75, u76, u77, u78, u79, u80, u81, u82, u83, u84, u85, u86, u87, u88, u89, u90, u91, u92, u93, u94, u95, u96, u97, u98, u99, u100, u101, u102, u103, u104, u105, u106, u107, u108, u109, u110], defers := [] } V := by
  obtain ⟨t0, t1, T2, t2, g2, T3, t3, g3, hs⟩ := ht.shape
  simp only [Array.mk.injEq, List.cons.injEq, and_true] at hs
  obtain ⟨rfl, rfl, rfl, rfl⟩ := hs
  obtain ⟨p0, p1, P2, p2, e2, P3, p3, e3, hs⟩ := ha.shape
  simp only [Array.mk.injEq, List.cons.injEq, and_true] at hs
  obtain ⟨rfl, rfl, rfl, rfl⟩ := hs
  have HGO := Lib.hid (fun (V2 : World) (h : Below V.heap.size V V2) (l0 l1 l2 l3 : Value) (hl : CoreIn V2.heap.size V2 (letT v t) #[l0, l1, l2, l3]) (y0 y2 y4 y5 y6 y7 y8 y9 y12 y13 y14 y15 y16 y17 y18 y19 y20 y21 y22 y23 y24 y25 y26 y27 y28 y29 y30 y31 y32 y33 y34 y35 y36 y37 y38 y39 y40 y41 y42 y43 y44 y45 y46 y47 y48 y49 y50 y51 y52 y53 y54 y55 y56 y57 y58 y59 y60 y61 y62 y63 y64 y65 y66 y67 y68 y69 y70 y71 y72 y73 y74 y75 y76 y77 y78 y79 y80 y81 y82 y83 y84 y85 y86 y87 y88 y89 y90 y91 y92 y93 y94 y95 y96 y97 y98 y99 y100 y101 y102 y103 y104 y105 y106 y107 y108 y109 y110 : Value) =>
    (show ∀ X11, X11 = V2.heap.size → letT12.wp Tryd.prog (bodyPost Tryd.prog Tryd.f5 (BoolBelow true W)) { tmps := #[y0, .slice Ai inp.length ci, y2, .pointer (some ⟨X3, 0, none⟩), y4, y5, y6, y7, y8, y9, .pointer (some ⟨X10, 0, none⟩), .pointer (some ⟨X11, 0, none⟩), y12, y13, y14, y15, y16, y17, y18, y19, y20, y21, y22, y23, y24, y25, y26, y27, y28, y29, y30, y31, y32, y33, y34, y35, y36, y37, y38, y39, y40, y41, y42, y43, y44, y45, y46, y47, y48, y49, y50, y51, y52, y53, y54, y55, y56, y57, y58, y59, y60, y61, y62, y63, y64, y65, y66, y67, y68, y69, y70, y71, y72, y73, y74, y75, y76, y77, y78, y79, y80, y81, y82, y83, y84, y85, y86, y87, y88, y89, y90, y91, y92, y93, y94, y95, y96, y97, y98, y99, y100, y101, y102, y103, y104, y105, y106, y107, y108, y109, y110], defers := [] } (V2.alloc (.cells #[l0, l1, l2, l3] 26)) from by
      rintro X11 rfl
      obtain ⟨q0, q1, Q2, q2, f2, Q3, q3, f3, hs⟩ := hl.shape
      simp only [Array.mk.injEq, List.cons.injEq, and_true] at hs
      obtain ⟨rfl, rfl, rfl, rfl⟩ := hs
      have hb3 : Below V2.heap.size V2 (V2.alloc (.cells #[.int .i64 q0, .int .i64 q1, .slice Q2 q2 f2, .slice Q3 q3 f3] 26)) := (Below.refl _ _).alloc (Nat.le_refl _) _
      have hb4 := h.trans (hb3.mono h.size)
      have hx11 := World.alloc_heap_new V2 (.cells #[.int .i64 q0, .int .i64 q1, .slice Q2 q2 f2, .slice Q3 q3 f3] 26)
      have hl2 := hl.later hb3
      generalize V2.alloc (.cells #[.int .i64 q0, .int .i64 q1, .slice Q2 q2 f2, .slice Q3 q3 f3] 26) = U at *
      have hrU := hr.below hb4
      have htU := ht.later hb4
      have haU := ha.later hb4
      have hiU := (hi.below hb4).mono hb4.size
      refine let_tail12 (W := W) (pa := runE t inp 1000) (pb := runE (appT v t) inp 1003) (pc := runE (letT v t) inp 1002) (ra := rightR (appT v t)) (rl := rightR (letT v t)) (hb.trans (hb4.mono hb.size)) hrU (fun V5 h5 => ?_)
        (fun V5 h5 => rright_any V5 (haU.later h5) (Nat.le_refl _)) (fun V5 h5 => rright_any V5 (hl2.later h5) (Nat.le_refl _))
        (fun V5 h5 => run_ready (hrU.below h5) (htU.later h5) (by omega) ((hiU.below h5).mono h5.size) hci 1000)
        (fun V5 h5 => run_ready (hrU.below h5) (haU.later h5) (by rw [hgt_app]; omega) ((hiU.below h5).mono h5.size) hci 1003)
        (fun V5 h5 => run_ready (hrU.below h5) (hl2.later h5) (by have := hgt_let v t; omega) ((hiU.below h5).mono h5.size) hci 1002)
        (fun e1 e2 e3 => let_law h0 hv e1 e2 e3) (run_steps t inp) _ _ _ _ _ _ _ _ _ _ _ _ _ _ _ _ _ _ _ _ _ _ _ _ _ _ _ _ _ _ _ _ _ _ _ _ _ _ _ _ _ _ _ _ _ _ _ _ _ _ _ _ _ _ _ _ _ _ _ _ _ _ _ _ _ _ _ _ _ _ _ _ _ _ _ _ _ _ _ _ _ _ _ _ _ _ _ _ _ _ _ _ _ _ _ _ _ _ _ _ _ _ _ _ _ _ _
      obtain ⟨x0, x1, x2, x3⟩ := box_cells hx3 (hb4.trans (h5.mono hb4.size))
      obtain ⟨y0, y1, y2, y3⟩ := box_cells hx10 (hb4.trans (h5.mono hb4.size))
      obtain ⟨z0, z1, z2, z3⟩ := box_cells hx11 h5
      exact ⟨x0, x1, x2, x3, y0, y1, y2, y3, z0, z1, z2, z3⟩))
  have HL := Lib.hid (fun (V2 : World) (h : Below V.heap.size V V2) => llet_any v V2 (ht.later h) (CoreIn.leaf V2.heap.size V2 1 v))
  obtain ⟨z0, z1, z2, z3⟩ := box_cells hx3 (Below.refl _ _)
  clear hx3 hx10 ht ha hi hb hr hh h0 hv hci
  refine wp_seq_k (fun K hK => ?_)
  have HK0 := Lib.hid hK
  clear hK
  unfold letR11 Tryd.f5
  dsimp only
  go_wp2_with (go_at_call 18; refine (HL.out _ (Below.refl _ _)).mono ?_; rintro en w2 ⟨l0, l1, l2, l3, rfl, hl, hb2⟩; obtain ⟨q0, q1, Q2, q2, f2, Q3, q3, f3, hs⟩ := hl.shape; simp only [Array.mk.injEq, List.cons.injEq, and_true] at hs; obtain ⟨rfl, rfl, rfl, rfl⟩ := hs; have HLI := Lib.hid hl; have HB2 := Lib.hid hb2; clear hl hb2)
  (try simp only [Exit.then])
  exact HK0.out _ _ (HGO.out w2 HB2.out _ _ _ _ HLI.out _ _ _ _ _ _ _ _ _ _ _ _ _ _ _ _ _ _ _ _ _ _ _ _ _ _ _ _ _ _ _ _ _ _ _ _ _ _ _ _ _ _ _ _ _ _ _ _ _ _ _ _ _ _ _ _ _ _ _ _ _ _ _ _ _ _ _ _ _ _ _ _ _ _ _ _ _ _ _ _ _ _ _ _ _ _ _ _ _ _ _ _ _ _ _ _ _ _ _ _ _ _ _ _ _ _ _ _ rfl)
end Go.Proofs.YtnolhcdfknjncaaDoor

/-
  CevalLet: the making of the first term: what holds of the world meanwhile.
-/
set_option linter.unusedVariables false
set_option linter.unusedSimpArgs false
namespace Go.Proofs.YtnolhcdfknjncaaDoor
open Go.RowKit Go.Proofs.YtnolhcdfknjncaaDoorW.PrintLast

set_option maxRecDepth 100000 in
set_option maxHeartbeats 1000000 in
theorem lfn_at (p : Int) {c0 c1 : Int} {A2 A3 : Option Addr} {n2 d2 n3 d3 : Nat} (w : World) :
    Calls Tryd.prog 17 #[.int .i64 p, .agg #[.int .i64 c0, .int .i64 c1, .slice A2 n2 d2, .slice A3 n3 d3]] w fun e w' => ∃ g, e = .returned (.agg #[.int .i64 3, .int .i64 p, .slice none 0 0, .slice (some ⟨g, 0, none⟩) 1 1]) ∧ w.heap.size ≤ g ∧ w'.heap[g]? = some (.cells #[.int .i64 c0, .int .i64 c1, .slice A2 n2 d2, .slice A3 n3 d3] 26 (0, 0)) ∧ Below w.heap.size w w' := by
  go_enter Tryd.func17, Tryd.ntmps17
  go_wp2_with fail
  have hb : Below w.heap.size w (((w.alloc (.cells #[.int .i64 c0, .int .i64 c1, .slice A2 n2 d2, .slice A3 n3 d3] 26)).alloc (.cells #[.int .i64 3, .int .i64 p, .slice none 0 0, .slice (some ⟨w.heap.size + 1 + 1, 0, none⟩) 1 1] 26)).alloc (.cells #[.int .i64 c0, .int .i64 c1, .slice A2 n2 d2, .slice A3 n3 d3] 26)) :=
    (((Below.refl _ _).alloc (Nat.le_refl _) _).alloc (by simp) _).alloc (by simp; omega) _
  exact bodyPost_ret (v := .agg #[.int .i64 3, .int .i64 p, .slice none 0 0, .slice (some ⟨w.heap.size + 1 + 1, 0, none⟩) 1 1]) (by simp [results, Tryd.results17, go_sem]) rfl ⟨w.heap.size + 1 + 1, rfl, by omega, heap3 _ _ _ _, hb⟩

def zeroC : Obj := .cells #[.int .i64 0, .int .i64 0, .slice none 0 0, .slice none 0 0] 26 (0, 0)
def appO (h : Nat) : Obj := .cells #[.int .i64 4, .int .i64 0, .slice none 0 0, .slice (some ⟨h, 0, none⟩) 2 2] 26 (0, 0)
def rowO (v : Int) (g : Nat) : Obj := .cells #[.int .i64 3, .int .i64 v, .slice none 0 0, .slice (some ⟨g, 0, none⟩) 1 1, .int .i64 2, .int .i64 1, .slice none 0 0, .slice none 0 0] 26 (0, 0)
def setA (w : World) (X h : Nat) : World :=
  (((w.setCell ⟨X, 0, none⟩ (.int .i64 4)).setCell ⟨X, 1, none⟩ (.int .i64 0)).setCell ⟨X, 2, none⟩ (.slice none 0 0)).setCell ⟨X, 3, none⟩ (.slice (some ⟨h, 0, none⟩) 2 2)
theorem setA_self {w : World} {X : Nat} (h : w.heap[X]? = some zeroC) (k : Nat) : (setA w X k).heap[X]? = some (appO k) := by
  unfold setA
  rw [heap_set_self (heap_set_self (heap_set_self (heap_set_self h 0 _) 1 _) 2 _) 3 _]; rfl
theorem setA_ne {w : World} {X j : Nat} (h : j ≠ X) (k : Nat) : (setA w X k).heap[j]? = w.heap[j]? := by
  unfold setA
  rw [heap_set_ne h, heap_set_ne h, heap_set_ne h, heap_set_ne h]
theorem setA_size (w : World) (X k : Nat) : (setA w X k).heap.size = w.heap.size := by simp [setA, World.setCell]
theorem bel_setA {V w : World} (h : Below V.heap.size V w) {X : Nat} (hX : V.heap.size ≤ X) (k : Nat) : Below V.heap.size V (setA w X k) :=
  (((h.setCell (p := ⟨X, 0, none⟩) hX _).setCell (p := ⟨X, 1, none⟩) hX _).setCell (p := ⟨X, 2, none⟩) hX _).setCell (p := ⟨X, 3, none⟩) hX _
theorem zeroC_cells {V : World} {b : Nat} (h : V.heap[b]? = some zeroC) : V.cell? ⟨b, 0, none⟩ = some (.int .i64 0) ∧ V.cell? ⟨b, 1, none⟩ = some (.int .i64 0) ∧ V.cell? ⟨b, 2, none⟩ = some (.slice none 0 0) ∧ V.cell? ⟨b, 3, none⟩ = some (.slice none 0 0) ∧ ∀ i, V.frozen? ⟨b, i, none⟩ = false := by
  unfold zeroC at h
  exact ⟨by simp [World.cell?, h], by simp [World.cell?, h], by simp [World.cell?, h], by simp [World.cell?, h], fun i => by simp [World.frozen?, h]⟩

structure AppR (V : World) (v : Int) (tt : Array Value) (b : Nat → Bool) (g h X : Nat) (w : World) : Prop where
  bel : Below V.heap.size V w
  f : b 2 = true → g < w.heap.size ∧ w.heap[g]? = some (.cells tt 26 (0, 0))
  s : b 4 = true → h < w.heap.size ∧ w.heap[h]? = some (rowO v g)
  x : b 6 = true → V.heap.size ≤ X ∧ X < w.heap.size ∧ (b 7 = false → w.heap[X]? = some zeroC)
  nf : b 2 = true → b 6 = true → g ≠ X
  ns : b 4 = true → b 6 = true → h ≠ X
  fin : b 7 = true → w.heap[X]? = some (appO h)
theorem AppR.start {V w : World} {v : Int} {tt : Array Value} (hb : Below V.heap.size V w) : AppR V v tt (fun _ => false) 0 0 0 w :=
  ⟨hb, fun h => Bool.noConfusion h, fun h => Bool.noConfusion h, fun h => Bool.noConfusion h, fun h => Bool.noConfusion h, fun h => Bool.noConfusion h, fun h => Bool.noConfusion h⟩
section
variable {V w w' : World} {v : Int} {tt : Array Value} {b : Nat → Bool} {g h X : Nat}
theorem AppR.pass (k : AppR V v tt b g h X w) {i : Nat} (hi : i = 0 ∨ i = 1 ∨ i = 3 ∨ i = 5) : AppR V v tt (up b i) g h X w := by
  have e : ∀ j, j = 2 ∨ j = 4 ∨ j = 6 ∨ j = 7 → up b i j = b j := fun j hj => up_ne (by omega)
  have e2 := e 2 (by omega)
  have e4 := e 4 (by omega)
  have e6 := e 6 (by omega)
  have e7 := e 7 (by omega)
  exact ⟨k.bel, e2 ▸ k.f, e4 ▸ k.s, e6 ▸ e7 ▸ k.x, e2 ▸ e6 ▸ k.nf, e4 ▸ e6 ▸ k.ns, e7 ▸ k.fin⟩
theorem AppR.call (k : AppR V v tt b g h X w) (h4 : b 4 = false) (h7 : b 7 = false) (hb : Below w.heap.size w w') {g' : Nat} (hg : w.heap.size ≤ g') (hh : w'.heap[g']? = some (.cells tt 26 (0, 0))) : AppR V v tt (up b 2) g' h X w' := by
  have hs := hb.size
  refine ⟨k.bel.trans (hb.mono k.bel.size), fun _ => ⟨(Array.getElem?_eq_some_iff.1 hh).1, hh⟩, fun l => ?_, fun l => ?_, fun _ l => ?_, fun l => ?_, fun l => ?_⟩
  · rw [up_ne (by decide), h4] at l; cases l
  · obtain ⟨k1, k2, k3⟩ := k.x (up_at (by decide) l)
    exact ⟨k1, by omega, fun m => (hb.block X k2).trans (k3 (by rwa [up_ne (by decide)] at m))⟩
  · have := (k.x (up_at (by decide) l)).2.1; omega
  · rw [up_ne (by decide), h4] at l; cases l
  · rw [up_ne (by decide), h7] at l; cases l
theorem AppR.row (k : AppR V v tt b g h X w) (h7 : b 7 = false) : AppR V v tt (up b 4) g w.heap.size X (w.alloc (rowO v g)) := by
  have hb : Below w.heap.size w (w.alloc (rowO v g)) := (Below.refl _ _).alloc (Nat.le_refl _) _
  have hs : (w.alloc (rowO v g)).heap.size = w.heap.size + 1 := World.size_alloc _ _
  refine ⟨k.bel.trans (hb.mono k.bel.size), fun l => ?_, fun _ => ⟨by omega, World.alloc_heap_new w _⟩, fun l => ?_, fun l m => k.nf (up_at (by decide) l) (up_at (by decide) m), fun _ l => ?_, fun l => ?_⟩
  · obtain ⟨k1, k2⟩ := k.f (up_at (by decide) l)
    exact ⟨by omega, (hb.block g k1).trans k2⟩
  · obtain ⟨k1, k2, k3⟩ := k.x (up_at (by decide) l)
    exact ⟨k1, by omega, fun m => (hb.block X k2).trans (k3 (by rwa [up_ne (by decide)] at m))⟩
  · have := (k.x (up_at (by decide) l)).2.1; omega
  · rw [up_ne (by decide), h7] at l; cases l
theorem AppR.new (k : AppR V v tt b g h X w) (h7 : b 7 = false) : AppR V v tt (up b 6) g h w.heap.size (w.alloc zeroC) := by
  have hb : Below w.heap.size w (w.alloc zeroC) := (Below.refl _ _).alloc (Nat.le_refl _) _
  have hs : (w.alloc zeroC).heap.size = w.heap.size + 1 := World.size_alloc _ _
  refine ⟨k.bel.trans (hb.mono k.bel.size), fun l => ?_, fun l => ?_, fun _ => ⟨k.bel.size, by omega, fun _ => World.alloc_heap_new w _⟩, fun l _ => ?_, fun l _ => ?_, fun l => ?_⟩
  · obtain ⟨k1, k2⟩ := k.f (up_at (by decide) l)
    exact ⟨by omega, (hb.block g k1).trans k2⟩
  · obtain ⟨k1, k2⟩ := k.s (up_at (by decide) l)
    exact ⟨by omega, (hb.block h k1).trans k2⟩
  · have := (k.f (up_at (by decide) l)).1; omega
  · have := (k.s (up_at (by decide) l)).1; omega
  · rw [up_ne (by decide), h7] at l; cases l
theorem AppR.lay (k : AppR V v tt b g h X w) (h2 : b 2 = true) (h4 : b 4 = true) (h6 : b 6 = true) (h7 : b 7 = false) : AppR V v tt (up b 7) g h X (setA w X h) := by
  obtain ⟨g1, g2, g3⟩ := k.x h6
  have hs := setA_size w X h
  refine ⟨bel_setA k.bel g1 _, fun _ => ?_, fun _ => ?_, fun _ => ⟨g1, by omega, fun m => by rw [up_self] at m; cases m⟩, fun _ _ => k.nf h2 h6, fun _ _ => k.ns h4 h6, fun _ => setA_self (g3 h7) h⟩
  · obtain ⟨k1, k2⟩ := k.f h2
    exact ⟨by omega, (setA_ne (k.nf h2 h6) _).trans k2⟩
  · obtain ⟨k1, k2⟩ := k.s h4
    exact ⟨by omega, (setA_ne (k.ns h4 h6) _).trans k2⟩
/-- the term lies in its variable -/
theorem AppR.done {t : Core} {c0 c1 c2 c3 : Value} (k : AppR V v #[c0, c1, c2, c3] b g h X w) (h2 : b 2 = true) (h4 : b 4 = true) (h7 : b 7 = true) (ht : CoreIn V.heap.size V t #[c0, c1, c2, c3]) :
    Below V.heap.size V w ∧ w.heap[X]? = some (.cells #[.int .i64 4, .int .i64 0, .slice none 0 0, .slice (some ⟨h, 0, none⟩) 2 2] 26 (0, 0)) ∧ CoreIn w.heap.size w (appT v t) #[.int .i64 4, .int .i64 0, .slice none 0 0, .slice (some ⟨h, 0, none⟩) 2 2] := by
  obtain ⟨k1, k2⟩ := k.f h2
  obtain ⟨k3, k4⟩ := k.s h4
  exact ⟨k.bel, k.fin h7, CoreIn.two 4 0 (CoreIn.one 3 v (ht.later k.bel) k1 k2) (CoreIn.leaf w.heap.size w 2 1) k3 k4⟩
end
end Go.Proofs.YtnolhcdfknjncaaDoor

/-
  CevalLet: from the making of its terms on.
-/
set_option linter.unusedVariables false
set_option linter.unusedSimpArgs false
namespace Go.Proofs.YtnolhcdfknjncaaDoor
open Go.RowKit

open Go.Proofs.YtnolhcdfknjncaaDoorW.PrintWords Go.Proofs.YtnolhcdfknjncaaDoorW.PrintLast
set_option maxRecDepth 100000 in
set_option maxHeartbeats 16000000 in
theorem let_tail10 {W V : World} (hb : Below W.heap.size W V) (hr : Ready V) {t : Core} {v : Int} {X3 X9 ci t2 t3 g2 g3 : Nat} {t0 t1 : Int} {Ai T2 T3 : Option Addr} {inp : List Int}
    (hx3 : V.heap[X3]? = some (.cells #[.int .i64 t0, .int .i64 t1, .slice T2 t2 g2, .slice T3 t3 g3] 26 (0, 0))) (hx9 : V.heap[X9]? = some (.cells #[.int .i64 2, .int .i64 1, .slice none 0 0, .slice none 0 0] 26 (0, 0)))
    (ht : CoreIn V.heap.size V t #[.int .i64 t0, .int .i64 t1, .slice T2 t2 g2, .slice T3 t3 g3]) (hi : IntsIn V.heap.size V Ai inp) (hci : inp.length ≤ ci) (hh : t.hgt ≤ 40000) (h0 : rightE t = 0) (hv : ¬ fr v t) (u0 u4 u5 u6 u7 u8 u10 u11 u12 u13 u14 u15 u16 u17 u18 u19 u20 u21 u22 u23 u24 u25 u26 u27 u28 u29 u30 u31 u32 u33 u34 u35 u36 u37 u38 u39 u40 u41 u42 u43 u44 u45 u46 u47 u48 u49 u50 u51 u52 u53 u54 u55 u56 u57 u58 u59 u60 u61 u62 u63 u64 u65 u66 u67 u68 u69 u70 u71 u72 u73 u74 u75 u76 u77 u78 u79 u80 u81 u82 u83 u84 u85 u86 u87 u88 u89 u90 u91 u92 u93 u94 u95 u96 u97 u98 u99 u100 u101 u102 u103 u104 u105 u106 u107 u108 u109 u110 : Value) :
    ∀ K : Act → World → Prop, (∀ a w, (Code.seq letR11 letT12).wp Tryd.prog (bodyPost Tryd.prog Tryd.f5 (BoolBelow true W)) a w → K a w) → letR10.wp Tryd.prog (Exit.then K (bodyPost Tryd.prog Tryd.f5 (BoolBelow true W))) { tmps := #[u0, .slice Ai inp.length ci, .int .i64 v, .pointer (some ⟨X3, 0, none⟩), u4, u5, u6, u7, u8, .pointer (some ⟨X9, 0, none⟩), u10, u11, u12, u13, u14, u15, u16, u17, u18, u19, u20, u21, u22, u23, u24, u25, u26, u27, u28, u29, u30, u31, u32, u33, u34, u35, u36, u37, u38, u39, u40, u41, u42, u43, u44, u45, u46, u47, u48, u49, u50, u51, u52, u53, u54, u55, u56, u57, u58, u59, u60, u61, u62, u63, u64, u65, u66, u67, u68, u69, u70, u71, u72, u73, u74, u75, u76, u77, u78, u79, u80, u81, u82, u83, u84, u85, u86, u87, u88, u89, u90, u91, u92, u93, u94, u95, u96, u97, u98, u99, u100, u101, u102, u103, u104, u105, u106, u107, u108, u109, u110], defers := [] } V := by
  intro K hK
  have HEND := Lib.hid (fun (V2 : World) (X10 : Nat) (a0 a1 a2 a3 : Value) (h : Below V.heap.size V V2) (hx10 : V2.heap[X10]? = some (.cells #[a0, a1, a2, a3] 26 (0, 0))) (ha : CoreIn V2.heap.size V2 (appT v t) #[a0, a1, a2, a3]) (y0 y4 y5 y6 y7 y8 y9 y11 y12 y13 y14 y15 y16 y17 y18 y19 y20 y21 y22 y23 y24 y25 y26 y27 y28 y29 y30 y31 y32 y33 y34 y35 y36 y37 y38 y39 y40 y41 y42 y43 y44 y45 y46 y47 y48 y49 y50 y51 y52 y53 y54 y55 y56 y57 y58 y59 y60 y61 y62 y63 y64 y65 y66 y67 y68 y69 y70 y71 y72 y73 y74 y75 y76 y77 y78 y79 y80 y81 y82 y83 y84 y85 y86 y87 y88 y89 y90 y91 y92 y93 y94 y95 y96 y97 y98 y99 y100 y101 y102 y103 y104 y105 y106 y107 y108 y109 y110 : Value) =>
    (show (Code.seq letR11 letT12).wp Tryd.prog (bodyPost Tryd.prog Tryd.f5 (BoolBelow true W)) { tmps := #[y0, .slice Ai inp.length ci, .int .i64 v, .pointer (some ⟨X3, 0, none⟩), y4, y5, y6, y7, y8, y9, .pointer (some ⟨X10, 0, none⟩), y11, y12, y13, y14, y15, y16, y17, y18, y19, y20, y21, y22, y23, y24, y25, y26, y27, y28, y29, y30, y31, y32, y33, y34, y35, y36, y37, y38, y39, y40, y41, y42, y43, y44, y45, y46, y47, y48, y49, y50, y51, y52, y53, y54, y55, y56, y57, y58, y59, y60, y61, y62, y63, y64, y65, y66, y67, y68, y69, y70, y71, y72, y73, y74, y75, y76, y77, y78, y79, y80, y81, y82, y83, y84, y85, y86, y87, y88, y89, y90, y91, y92, y93, y94, y95, y96, y97, y98, y99, y100, y101, y102, y103, y104, y105, y106, y107, y108, y109, y110], defers := [] } V2 from
      let_tail11 (hb.trans (h.mono hb.size)) (hr.below h) ((h.block X3 (Array.getElem?_eq_some_iff.1 hx3).1).trans hx3) hx10 (ht.later h) ha ((hi.below h).mono h.size) hci hh h0 hv _ _ _ _ _ _ _ _ _ _ _ _ _ _ _ _ _ _ _ _ _ _ _ _ _ _ _ _ _ _ _ _ _ _ _ _ _ _ _ _ _ _ _ _ _ _ _ _ _ _ _ _ _ _ _ _ _ _ _ _ _ _ _ _ _ _ _ _ _ _ _ _ _ _ _ _ _ _ _ _ _ _ _ _ _ _ _ _ _ _ _ _ _ _ _ _ _ _ _ _ _ _ _ _ _ _ _))
  have HS := Lib.hid (fun (V2 : World) (h : Below V.heap.size V V2) => box_cells hx3 h)
  have HS9 := Lib.hid (fun (V2 : World) (h : Below V.heap.size V V2) => box_cells hx9 h)
  have HT := Lib.hid ht
  have D0 := Lib.hid (show Below V.heap.size V V.drew from (Below.refl _ _).drew)
  clear hx3 hx9 ht hi hci hh h0 hv hb hr
  have HK0 := Lib.hid hK
  clear hK
  unfold letR10 Tryd.f5
  dsimp only
  refine start_ (n := 8) (S := fun w' => True) (ds := []) #[false, false, false, false, false, false, false, false] (by kernel_rfl) rfl rfl trivial (fun hHeld => ?_)
  clear hHeld
  refine inv_at (B := [0, 0, 3, 0, 15, 31, 0, 127]) [0, 1, 2, 3, 4, 5, 6, 7] (fun a0_ b a w' => ∃ g h X, ∃ ap : Value, a = putSel a0_ b [(0, 46, .int .i64 v), (1, 47, .agg #[.int .i64 t0, .int .i64 t1, .slice T2 t2 g2, .slice T3 t3 g3]), (2, 48, .agg #[.int .i64 3, .int .i64 v, .slice none 0 0, .slice (some ⟨g, 0, none⟩) 1 1]), (3, 49, .agg #[.int .i64 2, .int .i64 1, .slice none 0 0, .slice none 0 0]), (4, 50, .slice (some ⟨h, 0, none⟩) 2 2), (5, 51, ap), (6, 10, .pointer (some ⟨X, 0, none⟩))] ∧ AppR V v #[.int .i64 t0, .int .i64 t1, .slice T2 t2 g2, .slice T3 t3 g3] b g h X w' ∧ (b 5 = true → ap = .agg #[.int .i64 4, .int .i64 0, .slice none 0 0, .slice (some ⟨h, 0, none⟩) 2 2])) rfl (by kernel_rfl) (by kernel_rfl) (by kernel_rfl) ?_ ?_ ?_
  · exact ⟨0, 0, 0, .nilIface, by simp only [putSel, Bool.false_eq_true, if_false], AppR.start D0.out, fun l => Bool.noConfusion l⟩
  · skip
    refine steps_cons ?_ ?_
    · rintro b a w' ⟨g, h, X, ap, ha, hI, hP⟩ hb_ hon hoff
      refine ⟨_, rfl, fun K hK => ?_⟩
      have e2 : a.tmps[2]? = some (.int .i64 v) := by rw [ha]; exact (putSel_off rfl).trans rfl
      replace ha := Lib.hid ha
      have HI := Lib.hid hI
      have HP := Lib.hid hP
      clear hI hP
      refine value_ (w1 := w') (v := .int .i64 v) (by rfl) rfl ?_ ?_
      · go_simp
        try rfl
      exact hK.out _ _ ⟨g, h, X, ap, (by rw [ha.out]; exact putSel_upk 0 hb_ rfl rfl rfl), HI.out.pass (by omega), fun l => HP.out (up_at (by decide) l)⟩
    refine steps_cons ?_ ?_
    · rintro b a w' ⟨g, h, X, ap, ha, hI, hP⟩ hb_ hon hoff
      refine ⟨_, rfl, fun K hK => ?_⟩
      have e3 : a.tmps[3]? = some (.pointer (some ⟨X3, 0, none⟩)) := by rw [ha]; exact (putSel_off rfl).trans rfl
      obtain ⟨z0, z1, z2, z3⟩ := HS.out w' hI.bel
      replace ha := Lib.hid ha
      have HI := Lib.hid hI
      have HP := Lib.hid hP
      clear hI hP
      refine value_ (w1 := w') (v := .agg #[.int .i64 t0, .int .i64 t1, .slice T2 t2 g2, .slice T3 t3 g3]) (by rfl) rfl ?_ ?_
      · go_simp
        try rfl
      exact hK.out _ _ ⟨g, h, X, ap, (by rw [ha.out]; exact putSel_upk 1 hb_ rfl rfl rfl), HI.out.pass (by omega), fun l => HP.out (up_at (by decide) l)⟩
    refine steps_cons ?_ ?_
    · rintro b a w' ⟨g, h, X, ap, ha, hI, hP⟩ hb_ hon hoff
      refine ⟨_, rfl, fun K hK => ?_⟩
      have e46 : a.tmps[46]? = some (.int .i64 v) := by rw [ha]; exact putSel_on (e := (0, 46, .int .i64 v)) 0 rfl rfl (hon 0 (by kernel_rfl)) rfl
      have e47 : a.tmps[47]? = some (.agg #[.int .i64 t0, .int .i64 t1, .slice T2 t2 g2, .slice T3 t3 g3]) := by rw [ha]; exact putSel_on (e := (1, 47, .agg #[.int .i64 t0, .int .i64 t1, .slice T2 t2 g2, .slice T3 t3 g3])) 1 rfl rfl (hon 1 (by kernel_rfl)) rfl
      replace ha := Lib.hid ha
      have HI := Lib.hid hI
      have HP := Lib.hid hP
      clear hI hP
      refine goes_ Tryd.func17 (by kernel_rfl) rfl #[.int .i64 v, .agg #[.int .i64 t0, .int .i64 t1, .slice T2 t2 g2, .slice T3 t3 g3]] (by rfl) rfl rfl (by first | (simp only [List.map_toArray, List.map_cons, List.map_nil, Act.eval, Array.getD_eq_getD_getElem?, Option.getD_some, e46, e47]; done) | (simp only [List.map_toArray, List.map_cons, List.map_nil, Act.eval, Array.getD_eq_getD_getElem?, Option.getD_some, e46, e47]; rfl)) ?_
      refine (lfn_at v w').mono ?_
      rintro e w2 ⟨g', rfl, hg, hh, hb2⟩
      exact ⟨_, rfl, hK.out _ _ ⟨g', h, X, ap, (by rw [ha.out]; exact putSel_upk 2 hb_ rfl rfl rfl), HI.out.call (hoff 4 (by kernel_rfl)) (hoff 7 (by kernel_rfl)) hb2 hg hh, fun l => HP.out (up_at (by decide) l)⟩⟩
    refine steps_cons ?_ ?_
    · rintro b a w' ⟨g, h, X, ap, ha, hI, hP⟩ hb_ hon hoff
      refine ⟨_, rfl, fun K hK => ?_⟩
      have e9 : a.tmps[9]? = some (.pointer (some ⟨X9, 0, none⟩)) := by rw [ha]; exact (putSel_off rfl).trans rfl
      obtain ⟨z0, z1, z2, z3⟩ := HS9.out w' hI.bel
      replace ha := Lib.hid ha
      have HI := Lib.hid hI
      have HP := Lib.hid hP
      clear hI hP
      refine value_ (w1 := w') (v := .agg #[.int .i64 2, .int .i64 1, .slice none 0 0, .slice none 0 0]) (by rfl) rfl ?_ ?_
      · go_simp
        try rfl
      exact hK.out _ _ ⟨g, h, X, ap, (by rw [ha.out]; exact putSel_upk 3 hb_ rfl rfl rfl), HI.out.pass (by omega), fun l => HP.out (up_at (by decide) l)⟩
    refine steps_cons ?_ ?_
    · rintro b a w' ⟨g, h, X, ap, ha, hI, hP⟩ hb_ hon hoff
      refine ⟨_, rfl, fun K hK => ?_⟩
      have e48 : a.tmps[48]? = some (.agg #[.int .i64 3, .int .i64 v, .slice none 0 0, .slice (some ⟨g, 0, none⟩) 1 1]) := by rw [ha]; exact putSel_on (e := (2, 48, .agg #[.int .i64 3, .int .i64 v, .slice none 0 0, .slice (some ⟨g, 0, none⟩) 1 1])) 2 rfl rfl (hon 2 (by kernel_rfl)) rfl
      have e49 : a.tmps[49]? = some (.agg #[.int .i64 2, .int .i64 1, .slice none 0 0, .slice none 0 0]) := by rw [ha]; exact putSel_on (e := (3, 49, .agg #[.int .i64 2, .int .i64 1, .slice none 0 0, .slice none 0 0])) 3 rfl rfl (hon 3 (by kernel_rfl)) rfl
      replace ha := Lib.hid ha
      have HI := Lib.hid hI
      have HP := Lib.hid hP
      clear hI hP
      refine value_ (w1 := w'.alloc (rowO v g)) (v := .slice (some ⟨w'.heap.size, 0, none⟩) 2 2) (by rfl) rfl ?_ ?_
      · unfold rowO
        go_simp
        try rfl
      exact hK.out _ _ ⟨g, w'.heap.size, X, ap, (by rw [ha.out]; exact putSel_upk 4 hb_ rfl rfl rfl), HI.out.row (hoff 7 (by kernel_rfl)), fun l => by rw [up_ne (by decide), hoff 5 (by kernel_rfl)] at l; cases l⟩
    refine steps_cons ?_ ?_
    · rintro b a w' ⟨g, h, X, ap, ha, hI, hP⟩ hb_ hon hoff
      refine ⟨_, rfl, fun K hK => ?_⟩
      have e50 : a.tmps[50]? = some (.slice (some ⟨h, 0, none⟩) 2 2) := by rw [ha]; exact putSel_on (e := (4, 50, .slice (some ⟨h, 0, none⟩) 2 2)) 4 rfl rfl (hon 4 (by kernel_rfl)) rfl
      replace ha := Lib.hid ha
      have HI := Lib.hid hI
      have HP := Lib.hid hP
      clear hI hP
      refine value_ (w1 := w') (v := .agg #[.int .i64 4, .int .i64 0, .slice none 0 0, .slice (some ⟨h, 0, none⟩) 2 2]) (by rfl) rfl ?_ ?_
      · go_simp
        try rfl
      exact hK.out _ _ ⟨g, h, X, .agg #[.int .i64 4, .int .i64 0, .slice none 0 0, .slice (some ⟨h, 0, none⟩) 2 2], (by rw [ha.out]; exact putSel_upk 5 hb_ rfl rfl rfl), HI.out.pass (by omega), fun _ => rfl⟩
    refine steps_cons ?_ ?_
    · rintro b a w' ⟨g, h, X, ap, ha, hI, hP⟩ hb_ hon hoff
      refine ⟨_, rfl, fun K hK => ?_⟩
      replace ha := Lib.hid ha
      have HI := Lib.hid hI
      have HP := Lib.hid hP
      clear hI hP
      refine value_ (w1 := w'.alloc zeroC) (v := .pointer (some ⟨w'.heap.size, 0, none⟩)) (by rfl) rfl ?_ ?_
      · unfold zeroC
        go_simp
        try rfl
      exact hK.out _ _ ⟨g, h, w'.heap.size, ap, (by rw [ha.out]; exact putSel_upk 6 hb_ rfl rfl rfl), HI.out.new (hoff 7 (by kernel_rfl)), fun l => HP.out (up_at (by decide) l)⟩
    refine steps_cons ?_ ?_
    · rintro b a w' ⟨g, h, X, ap, ha, hI, hP⟩ hb_ hon hoff
      refine ⟨_, rfl, fun K hK => ?_⟩
      obtain rfl := hP (hon 5 (by kernel_rfl))
      have e51 : a.tmps[51]? = some (.agg #[.int .i64 4, .int .i64 0, .slice none 0 0, .slice (some ⟨h, 0, none⟩) 2 2]) := by rw [ha]; exact putSel_on (e := (5, 51, .agg #[.int .i64 4, .int .i64 0, .slice none 0 0, .slice (some ⟨h, 0, none⟩) 2 2])) 5 rfl rfl (hon 5 (by kernel_rfl)) rfl
      have e10 : a.tmps[10]? = some (.pointer (some ⟨X, 0, none⟩)) := by rw [ha]; exact putSel_on (e := (6, 10, .pointer (some ⟨X, 0, none⟩))) 6 rfl rfl (hon 6 (by kernel_rfl)) rfl
      obtain ⟨y0, y1, y2, y3, y4⟩ := zeroC_cells ((hI.x (hon 6 (by kernel_rfl))).2.2 hb_)
      replace ha := Lib.hid ha
      have HI := Lib.hid hI
      have HP := Lib.hid hP
      clear hI hP
      refine skip_ (w1 := setA w' X h) (by rfl) rfl ?_ ?_
      · unfold setA
        go_simp
        try rfl
      exact hK.out _ _ ⟨g, h, X, .agg #[.int .i64 4, .int .i64 0, .slice none 0 0, .slice (some ⟨h, 0, none⟩) 2 2], (by rw [ha.out]; exact (putSel_skip rfl).symm), HI.out.lay (hon 2 (by kernel_rfl)) (hon 4 (by kernel_rfl)) (hon 6 (by kernel_rfl)) hb_, fun _ => rfl⟩
    exact steps_nil
  rintro b a w' hall ⟨g, h, X, ap, ha, hI, hP⟩
  have hl : ∀ j, j ≤ 7 → b j = true := fun j hj => hall j (by
    have : j = 0 ∨ j = 1 ∨ j = 2 ∨ j = 3 ∨ j = 4 ∨ j = 5 ∨ j = 6 ∨ j = 7 := by omega
    rcases this with rfl | rfl | rfl | rfl | rfl | rfl | rfl | rfl <;> rfl)
  have b0 := hl 0 (by decide)
  have b1 := hl 1 (by decide)
  have b2 := hl 2 (by decide)
  have b3 := hl 3 (by decide)
  have b4 := hl 4 (by decide)
  have b5 := hl 5 (by decide)
  have b6 := hl 6 (by decide)
  obtain ⟨g1, g2, g3⟩ := hI.done b2 b4 (hl 7 (by decide)) HT.out
  subst ha
  simp only [putSel, b0, b1, b2, b3, b4, b5, b6, if_true, Act.put, List.setIfInBounds_toArray, List.set_cons_zero, List.set_cons_succ, Exit.then]
  exact HK0.out _ _ (HEND.out _ _ _ _ _ _ g1 g2 g3 _ _ _ _ _ _ _ _ _ _ _ _ _ _ _ _ _ _ _ _ _ _ _ _ _ _ _ _ _ _ _ _ _ _ _ _ _ _ _ _ _ _ _ _ _ _ _ _ _ _ _ _ _ _ _ _ _ _ _ _ _ _ _ _ _ _ _ _ _ _ _ _ _ _ _ _ _ _ _ _ _ _ _ _ _ _ _ _ _ _ _ _ _ _ _ _ _ _ _ _ _ _ _ _ _ _ _)
end Go.Proofs.YtnolhcdfknjncaaDoor

/-
  CevalLet: its walk.
-/
set_option linter.unusedVariables false
set_option linter.unusedSimpArgs false
namespace Go.Proofs.YtnolhcdfknjncaaDoor
open Go.RowKit


theorem sz_le_kids : ∀ (m : Nat) (cs : List Core), (∀ c ∈ cs, nodesE c < 400 → szT c ≤ nodesE c) → nodesK m cs < 400 → m + szL cs ≤ nodesK m cs
  | m, [], _, h => by simp [nodesK, szL]
  | m, c :: cs, hc, h => by
    simp only [nodesK] at h ⊢
    by_cases hm : m < 400
    · rw [if_pos hm] at h ⊢
      have h1 := nodesK_ge (m + nodesE c) cs
      have h2 := sz_le_kids (m + nodesE c) cs (fun x hx => hc x (List.mem_cons_of_mem _ hx)) h
      have h3 := hc c (List.mem_cons_self ..) (by omega)
      simp only [szL]
      omega
    · rw [if_neg hm] at h; omega
theorem sz_le_nodes : ∀ (t : Core), nodesE t < 400 → szT t ≤ nodesE t
  | .mk k n ks cs, h => by
    simp only [nodesE] at h ⊢
    have := sz_le_kids (1 + ks.length) cs (fun c hc hn => sz_le_nodes c hn) h
    simp only [szT]
    omega

set_option maxRecDepth 100000 in
set_option maxHeartbeats 1600000 in
theorem rFree_any {t : Core} {v : Array Value} (w : World) (hin : CoreIn w.heap.size w t v) (h0 : rightR t = 0) (hsz : szT t ≤ 400000) :
    Calls Tryd.prog 16 #[.agg v] w (FreePost t w) := by
  obtain ⟨k0, n0, A2, n2, d2, A3, n3, d3, rfl⟩ := hin.shape
  have hwt := wt_of_right ((right_iff t).1 h0)
  have hb0 : Below w.heap.size w (w.alloc (.cells #[.int .i64 k0, .int .i64 n0, .slice A2 n2 d2, .slice A3 n3 d3] 26)) := (Below.refl _ _).alloc (Nat.le_refl _) _
  have hx := World.alloc_heap_new w (.cells #[.int .i64 k0, .int .i64 n0, .slice A2 n2 d2, .slice A3 n3 d3] 26)
  have HB := Lib.hid hb0
  have HR := Lib.hid (rright_any _ (hin.later hb0) (Nat.le_refl _))
  rw [h0] at HR
  have HF := Lib.hid (fun (V : World) (h : Below (w.alloc (.cells #[.int .i64 k0, .int .i64 n0, .slice A2 n2 d2, .slice A3 n3 d3] 26)).heap.size (w.alloc (.cells #[.int .i64 k0, .int .i64 n0, .slice A2 n2 d2, .slice A3 n3 d3] 26)) V) => rfree_any (w := V) ((hin.later hb0).later h) hwt hsz)
  have HC := Lib.hid (fun (V : World) (h : Below (w.alloc (.cells #[.int .i64 k0, .int .i64 n0, .slice A2 n2 d2, .slice A3 n3 d3] 26)).heap.size (w.alloc (.cells #[.int .i64 k0, .int .i64 n0, .slice A2 n2 d2, .slice A3 n3 d3] 26)) V) => box_cells hx h)
  clear hin hb0 h0 hwt hx
  go_enter Tryd.func16, Tryd.ntmps16
  go_wp2_with (first
    | (go_at_call 15; refine HR.out.mono ?_; rintro e w1 ⟨rfl, hb1⟩; obtain ⟨y0, y1, y2, y3⟩ := HC.out w1 hb1)
    | (go_at_call 33; refine (HF.out _ hb1).mono ?_; rintro e w2 ⟨A, c, r, rfl, hm, hi, hb2⟩))
  go_ret
  exact ⟨A, c, r, rfl, hm, hi, fin2 HB.out hb1 hb2⟩

set_option maxRecDepth 100000 in
set_option maxHeartbeats 8000000 in
theorem let_walk {t : Core} {vv : Array Value} (W : World) (hr : Ready W) (hin : CoreIn W.heap.size W t vv) (hh : t.hgt ≤ 1048576) (inp : List Int) (Ai : Option Addr) (ci : Nat) (hi : IntsIn W.heap.size W Ai inp) (hci : inp.length ≤ ci) (v : Int) :
    Calls Tryd.prog 5 #[.agg vv, .slice Ai inp.length ci, .int .i64 v] W (BoolBelow true W) := by
  obtain ⟨t0, t1, T2, t2, g2, T3, t3, g3, rfl⟩ := hin.shape
  obtain ⟨W0, hW0⟩ : ∃ W0, W.alloc (.cells #[.int .i64 t0, .int .i64 t1, .slice T2 t2 g2, .slice T3 t3 g3] 26) = W0 := ⟨_, rfl⟩
  have hb0 : Below W.heap.size W W0 := by rw [← hW0]; exact (Below.refl _ _).alloc (Nat.le_refl _) _
  have hx0 : W0.heap[W.heap.size]? = some (.cells #[.int .i64 t0, .int .i64 t1, .slice T2 t2 g2, .slice T3 t3 g3] 26 (0, 0)) := by rw [← hW0]; exact World.alloc_heap_new W _
  have HF := Lib.hid (few_any W0 (hin.later hb0) hh inp Ai ci)
  have HC := Lib.hid (fun (V : World) (h : Below W0.heap.size W0 V) => box_cells hx0 h)
  have HK := Lib.hid (fun (V : World) (h : Below W0.heap.size W0 V) => knows_any V (hr.below (hb0.trans (h.mono hb0.size))))
  have HR := Lib.hid (fun (V : World) (h : Below W0.heap.size W0 V) => rright_any V ((hin.later hb0).later h) (Nat.le_refl _))
  have HB0 := Lib.hid hb0
  obtain ⟨z0, z1, z2, z3⟩ := HC.out W0 (Below.refl _ _)
  cases hfw : fewB t inp with
  | false =>
    rw [hfw] at HF
    clear hin hb0 hx0 hr hi hci hh hfw
    generalize inp.length = L at *
    go_enter Tryd.func5, Tryd.ntmps5
    go_wp2_with (first
      | (go_at_call 7; refine HF.out.mono ?_; rintro e w1 ⟨rfl, hb1⟩)
      | (go_at_call 8; refine (HK.out _ hb1).mono ?_; rintro e w4 ⟨rfl, hb4⟩))
    go_ret
    exact ⟨rfl, fin2 HB0.out hb1 hb4⟩
  | true =>
    rw [hfw] at HF
    have hsm : nodesE t < 400 := by
      simp only [fewB, decide_eq_true_eq] at hfw
      exact hfw.1
    by_cases h0 : rightR t = 0
    · have hE0 := (right_iff t).1 h0
      rw [h0] at HR
      have hh4 : t.hgt ≤ 40000 := by have := hgt_le_nodes t hsm; omega
      have hszt : szT t ≤ 400000 := by have := sz_le_nodes t hsm; omega
      by_cases hv0 : v < 0
      · clear hin hb0 hx0 hr hi hci hh hfw h0 hE0 hsm hh4 hszt
        generalize inp.length = L at *
        go_enter Tryd.func5, Tryd.ntmps5
        go_wp2_with (first
          | (go_at_call 7; refine HF.out.mono ?_; rintro e w1 ⟨rfl, hb1⟩; obtain ⟨y0, y1, y2, y3⟩ := HC.out w1 hb1)
          | (go_at_call 15; refine (HR.out _ hb1).mono ?_; rintro e w2 ⟨rfl, hb2⟩; have hb3 := hb1.trans (hb2.mono hb1.size))
          | (go_at_call 8; refine (HK.out _ hb3).mono ?_; rintro e w4 ⟨rfl, hb4⟩))
        go_ret
        exact ⟨rfl, fin2 HB0.out hb3 hb4⟩
      · by_cases hv1 : 65536 ≤ v
        · clear hin hb0 hx0 hr hi hci hh hfw h0 hE0 hsm hh4 hszt
          generalize inp.length = L at *
          go_enter Tryd.func5, Tryd.ntmps5
          go_wp2_with (first
            | (go_at_call 7; refine HF.out.mono ?_; rintro e w1 ⟨rfl, hb1⟩; obtain ⟨y0, y1, y2, y3⟩ := HC.out w1 hb1)
            | (go_at_call 15; refine (HR.out _ hb1).mono ?_; rintro e w2 ⟨rfl, hb2⟩; have hb3 := hb1.trans (hb2.mono hb1.size))
            | (go_at_call 8; refine (HK.out _ hb3).mono ?_; rintro e w4 ⟨rfl, hb4⟩))
          go_ret
          exact ⟨rfl, fin2 HB0.out hb3 hb4⟩
        · have HFR := Lib.hid (fun (V : World) (h : Below W0.heap.size W0 V) => rFree_any V ((hin.later hb0).later h) h0 hszt)
          have HGO := Lib.hid (fun (hnv : ¬ fr v t) (V : World) (h : Below W0.heap.size W0 V) (y0 y4 y5 y6 y7 y8 y10 y11 y12 y13 y14 y15 y16 y17 y18 y19 y20 y21 y22 y23 y24 y25 y26 y27 y28 y29 y30 y31 y32 y33 y34 y35 y36 y37 y38 y39 y40 y41 y42 y43 y44 y45 y46 y47 y48 y49 y50 y51 y52 y53 y54 y55 y56 y57 y58 y59 y60 y61 y62 y63 y64 y65 y66 y67 y68 y69 y70 y71 y72 y73 y74 y75 y76 y77 y78 y79 y80 y81 y82 y83 y84 y85 y86 y87 y88 y89 y90 y91 y92 y93 y94 y95 y96 y97 y98 y99 y100 y101 y102 y103 y104 y105 y106 y107 y108 y109 y110 : Value) =>
            (show ∀ X9, X9 = V.heap.size → ∀ K : Act → World → Prop, (∀ a w, (Code.seq letR11 letT12).wp Tryd.prog (bodyPost Tryd.prog Tryd.f5 (BoolBelow true W)) a w → K a w) → letR10.wp Tryd.prog (Exit.then K (bodyPost Tryd.prog Tryd.f5 (BoolBelow true W))) { tmps := #[y0, .slice Ai inp.length ci, .int .i64 v, .pointer (some ⟨W.heap.size, 0, none⟩), y4, y5, y6, y7, y8, .pointer (some ⟨X9, 0, none⟩), y10, y11, y12, y13, y14, y15, y16, y17, y18, y19, y20, y21, y22, y23, y24, y25, y26, y27, y28, y29, y30, y31, y32, y33, y34, y35, y36, y37, y38, y39, y40, y41, y42, y43, y44, y45, y46, y47, y48, y49, y50, y51, y52, y53, y54, y55, y56, y57, y58, y59, y60, y61, y62, y63, y64, y65, y66, y67, y68, y69, y70, y71, y72, y73, y74, y75, y76, y77, y78, y79, y80, y81, y82, y83, y84, y85, y86, y87, y88, y89, y90, y91, y92, y93, y94, y95, y96, y97, y98, y99, y100, y101, y102, y103, y104, y105, y106, y107, y108, y109, y110], defers := [] } (V.alloc (.cells #[.int .i64 2, .int .i64 1, .slice none 0 0, .slice none 0 0] 26)) from by
              rintro X9 rfl
              have hb3 : Below V.heap.size V (V.alloc (.cells #[.int .i64 2, .int .i64 1, .slice none 0 0, .slice none 0 0] 26)) := (Below.refl _ _).alloc (Nat.le_refl _) _
              have hb4 := h.trans (hb3.mono h.size)
              have hb5 := hb0.trans (hb4.mono hb0.size)
              have hx9 := World.alloc_heap_new V (.cells #[.int .i64 2, .int .i64 1, .slice none 0 0, .slice none 0 0] 26)
              exact let_tail10 hb5 (hr.below hb5) ((hb4.block W.heap.size (Array.getElem?_eq_some_iff.1 hx0).1).trans hx0) hx9 (hin.later hb5) ((hi.below hb5).mono hb5.size) hci hh4 hE0 hnv _ _ _ _ _ _ _ _ _ _ _ _ _ _ _ _ _ _ _ _ _ _ _ _ _ _ _ _ _ _ _ _ _ _ _ _ _ _ _ _ _ _ _ _ _ _ _ _ _ _ _ _ _ _ _ _ _ _ _ _ _ _ _ _ _ _ _ _ _ _ _ _ _ _ _ _ _ _ _ _ _ _ _ _ _ _ _ _ _ _ _ _ _ _ _ _ _ _ _ _ _ _ _ _ _ _ _))
          clear hin hb0 hx0 hr hi hci hh hfw h0 hE0 hsm hh4 hszt
          go_enter Tryd.func5, Tryd.ntmps5
          go_wp2_with (first
            | (go_at_call 7; refine HF.out.mono ?_; rintro e w1 ⟨rfl, hb1⟩; obtain ⟨y0, y1, y2, y3⟩ := HC.out w1 hb1)
            | (go_at_call 15; refine (HR.out _ hb1).mono ?_; rintro e w2 ⟨rfl, hb2⟩; have hb3 := hb1.trans (hb2.mono hb1.size); obtain ⟨x0, x1, x2, x3⟩ := HC.out w2 hb3)
            | (go_at_call 16; refine (HFR.out _ hb3).mono ?_; rintro e w5 ⟨A, c, r, rfl, hm, hir, hb5⟩; have HM := Lib.hid hm; have HIR := Lib.hid hir; have HB5 := Lib.hid (hb3.trans (hb5.mono hb3.size)); clear hm hir hb5; obtain ⟨L, hL⟩ : ∃ L, r.length = L := ⟨_, rfl⟩; have HL := Lib.hid hL; rw [hL]; clear hL))
          go_loopw [36] (fun i wr => ∃ j : Nat, j ≤ L ∧ i = .int .i64 (j : Int) ∧ Hid (∀ k, k < j → nth r k ≠ v) ∧ Hid (Below w5.heap.size w5 wr)) (fun i _ => L + 1 - (intOf i).toNat)
          case atStart => exact ⟨0, by omega, rfl, Lib.hid (fun k hk => by omega), Lib.hid (Below.refl _ _)⟩
          case round =>
            obtain ⟨j, hj, rfl, HN, HBR⟩ := hrel
            have HW := Lib.hid (HB5.out.trans (HBR.out.mono HB5.out.size))
            by_cases hlt : j < L
            · have hj0 : (0 : Int) ≤ (j : Int) := by omega
              have hjl : (j : Int) < (L : Int) := by omega
              have hjr : j < r.length := by rw [HL.out]; exact hlt
              have hLb : L ≤ 17592186043904 := by have := HIR.out.1; rw [HL.out] at this; omega
              obtain ⟨b, o, rfl, hb, hc⟩ := (HIR.out.below HBR.out).at_ (by omega)
              have hcj := hc j hjr
              clear hc hb
              by_cases hx : nth r j = v
              · have hxb : (nth r j == v) = true := by simpa using hx
                clear hx
                generalize nth r j = x at *
                go_wp2_with (go_at_call 8; refine (HK.out _ HW.out).mono ?_; rintro e w4 ⟨rfl, hb4⟩)
                go_ret
                exact ⟨rfl, fin2 HB0.out HW.out hb4⟩
              · have hxb : (nth r j == v) = false := by simpa using hx
                have HN2 := Lib.hid (show ∀ k, k < j + 1 → nth r k ≠ v from fun k hk => by
                  rcases Nat.lt_or_ge k j with h' | h'
                  · exact HN.out k h'
                  · obtain rfl : k = j := by omega
                    exact hx)
                clear hx
                generalize nth r j = x at *
                go_wp2_with fail
                go_roundw
                case rel => exact ⟨j + 1, by omega, by go_num, HN2, HBR⟩
                case measure => simp [intOf]; omega
            · have hjl : ¬ (j : Int) < (L : Int) := by omega
              have hnv : ¬ fr v t := fun hf => by
                have hmem := (HM.out v).2 hf
                obtain ⟨k, hk, hkv⟩ := List.getElem_of_mem hmem
                have hkL : k < L := by have := HL.out; omega
                exact HN.out k (by omega) (by rw [nth_eq r hk]; exact hkv)
              have HNV := Lib.hid hnv
              clear hnv
              go_wp2_with fail
              exact HGO.out HNV.out wr HW.out _ _ _ _ _ _ _ _ _ _ _ _ _ _ _ _ _ _ _ _ _ _ _ _ _ _ _ _ _ _ _ _ _ _ _ _ _ _ _ _ _ _ _ _ _ _ _ _ _ _ _ _ _ _ _ _ _ _ _ _ _ _ _ _ _ _ _ _ _ _ _ _ _ _ _ _ _ _ _ _ _ _ _ _ _ _ _ _ _ _ _ _ _ _ _ _ _ _ _ _ _ _ _ _ _ _ _ _ rfl _ ‹∀ (a : Act) (w : World), Code.wp Tryd.prog _ _ a w → _›
    · have hz1 : (rightR t == 0) = false := by simpa using h0
      have hz2 : (rightR t != 0) = true := by simpa using h0
      clear hin hb0 hx0 hr hi hci hh hfw h0 hsm
      generalize inp.length = L at *
      generalize rightR t = rr at *
      go_enter Tryd.func5, Tryd.ntmps5
      go_wp2_with (first
        | (go_at_call 7; refine HF.out.mono ?_; rintro e w1 ⟨rfl, hb1⟩; obtain ⟨y0, y1, y2, y3⟩ := HC.out w1 hb1)
        | (go_at_call 15; refine (HR.out _ hb1).mono ?_; rintro e w2 ⟨rfl, hb2⟩; have hb3 := hb1.trans (hb2.mono hb1.size))
        | (go_at_call 8; refine (HK.out _ hb3).mono ?_; rintro e w4 ⟨rfl, hb4⟩))
      go_ret
      exact ⟨rfl, fin2 HB0.out hb3 hb4⟩
end Go.Proofs.YtnolhcdfknjncaaDoor
