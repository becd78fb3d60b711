/-
  1 texts of this seat in one: V20.
-/
import Derived.Test.YtnolhcdfknjncaaDoorY16
import Derived.Test.YtnolhcdfknjncaaDoorY17
import Derived.Test.YtnolhcdfknjncaaDoorY18
/-
  The document's run: a primitive.
-/
set_option linter.unusedVariables false
set_option linter.unusedSimpArgs false
namespace Go.Proofs.YtnolhcdfknjncaaDoor
open Go.RowKit

section
variable {X Y : Nat → Prop} {B mb cb : Nat} {inp : List Int} {fuel : FL} {s s1 : St} {cut stk rai : Bool} {x0 x1 x2 : Value} {W W' W1 W2 : World} {o : Out}
theorem ROut.lim_ {e : Ending} {l : Nat} (h : ROut X B mb cb inp fuel s o W e W') (h1 : fuel.lim ≤ l) (h2 : l ≤ fuel.f) : ROut X B mb cb inp ⟨fuel.f, l⟩ s o W e W' := by
  obtain ⟨a, b, k, n, A, l', d, rfl, ho⟩ := h
  refine ⟨a, b, k, n, A, l', d, rfl, ?_⟩
  obtain ⟨r, s'⟩ := o
  cases r with
  | val v => exact ⟨ho.1.lim_ h1 h2, ho.2⟩
  | raised v => obtain ⟨y0, y1, y2, g1, g2, g3⟩ := ho; exact ⟨y0, y1, y2, g1.lim_ h1 h2, g2, g3⟩
  | stuck => exact RIn.lim_ ho h1 h2
  | cut => exact RIn.lim_ ho h1 h2
theorem rprim_any (h : RGo X B mb cb inp fuel s W) (hlim : fuel.lim < fuel.f) (hX : ∀ k, X k → k < W.heap.size) {A : Option Addr} {l : List PV} {c : Nat} (hv : VRow X s.fns.length s.cells.length W A l) (rec : Core → PEnv → St → Out) {p : Int} (hp1 : 1 ≤ p) (hp2 : p ≤ 15) (hl : l.length = if two p then 2 else 1) :
    Calls Tryd.prog 75 #[.pointer (some ⟨mb, 0, none⟩), .int .i64 p, .slice A l.length c] W (ROut X B mb cb inp fuel.up s (primP inp rec p l s) W) := by
  have hu : RGo X B mb cb inp fuel.up s W := h.lim_ (l := fuel.lim + 1) (by omega) (by omega)
  have ha := h.askB
  have hb := h.outB
  have hc := h.celB
  by_cases h9 : p ≤ 9
  · have hl2 : l.length = 2 := by rw [hl, if_pos (by simp [two]; omega)]
    match l, hl2, hv with
    | [a, b], _, hv =>
      refine (rprim_do hu hp1 h9 hv (by simp)).mono fun e w' hp => ?_
      have e1 : primP inp rec p [a, b] s = arithO p a b s := by
        unfold primP arithO
        simp only [List.getElem?_cons_zero, List.getElem?_cons_succ, Option.getD_some]
        rw [if_neg (by omega), if_neg (by omega), if_neg (by omega), if_neg (by omega), if_neg (by omega), if_neg (by omega), if_neg (by omega)]
        cases a <;> cases b <;> rfl
      rw [e1]
      exact hp
  by_cases h12 : p = 12
  · subst h12
    have hl2 : l.length = 2 := by rw [hl, if_pos (by decide)]
    match l, hl2, hv with
    | [a, b], _, hv =>
      refine (rprim_set hu hX hv (by simp)).mono fun e w' hp => ?_
      cases a <;> exact hp
  have hl1 : l.length = 1 := by rw [hl, if_neg (by simp [two]; omega)]
  match l, hl1, hv with
  | [a], _, hv =>
    have hcase : p = 10 ∨ p = 11 ∨ p = 13 ∨ p = 14 ∨ p = 15 := by omega
    rcases hcase with rfl | rfl | rfl | rfl | rfl
    · exact rprim_ref hu hX (by show _ ≤ fuel.lim + 1; omega) hv (by simp)
    · refine (rprim_get hu hv (by simp)).mono fun e w' hp => ?_
      cases a <;> exact hp
    · refine (rprim_print hu hX (by show _ ≤ fuel.lim + 1; omega) hv (by simp)).mono fun e w' hp => ?_
      cases a <;> exact hp
    · exact rprim_read h hlim _
    · refine (rprim_raise hu hv (by simp)).mono fun e w' hp => ?_
      exact hp
end
end Go.Proofs.YtnolhcdfknjncaaDoor
