/-
  2 texts of this seat in one: V41 V42.
-/
import Derived.Test.YtnolhcdfknjncaaDoorQL
import Derived.Test.YtnolhcdfknjncaaDoorQV
/-
  camletref02.Right: a run's end is right.
-/
set_option linter.unusedVariables false
set_option linter.unusedSimpArgs false
namespace Go.Proofs.YtnolhcdfknjncaaDoor
open Go.RowKit

/-- an end that is right -/
def rightEnd (p : PEnd) : Prop := 1 ≤ p.kind ∧ p.kind ≤ 6 ∧ 0 ≤ p.n ∧ (0 < p.n → p.kind = 2) ∧ ∀ x ∈ p.out, wrap31 x = x
set_option maxRecDepth 100000 in
set_option maxHeartbeats 4000000 in
theorem right02_any (p : PEnd) (hp : rightEnd p) (w : World) {A : Option Addr} {c : Nat} (hi : IntsIn w.heap.size w A p.out) :
    Calls Tryd.prog 13 #[.agg #[.int .i64 p.kind, .int .i64 p.n, .slice A p.out.length c, .int .i64 p.steps]] w (BoolBelow true w) := by
  obtain ⟨hk1, hk2, hn, hkn, hout⟩ := hp
  have hl := hi.1
  have hb0 : Below w.heap.size w (w.alloc (.cells #[.int .i64 p.kind, .int .i64 p.n, .slice A p.out.length c, .int .i64 p.steps] 31)) := (Below.refl _ _).alloc (Nat.le_refl _) _
  have hnw : (w.alloc (.cells #[.int .i64 p.kind, .int .i64 p.n, .slice A p.out.length c, .int .i64 p.steps] 31)).heap[w.heap.size]? = _ := World.alloc_heap_new _ _
  have hi0 := hi.below hb0
  have HO := Lib.hid (fun j (hj : j < p.out.length) => (show wrap31 (nth p.out j) = nth p.out j from hout _ (nth_mem _ hj)))
  have HB := Lib.hid hb0
  generalize hV : (w.alloc (.cells #[.int .i64 p.kind, .int .i64 p.n, .slice A p.out.length c, .int .i64 p.steps] 31)) = V at *
  have q0 : V.cell? ⟨w.heap.size, 0, none⟩ = some (.int .i64 p.kind) := by simp [World.cell?, hnw]
  have q1 : V.cell? ⟨w.heap.size, 1, none⟩ = some (.int .i64 p.n) := by simp [World.cell?, hnw]
  have q2 : V.cell? ⟨w.heap.size, 2, none⟩ = some (.slice A p.out.length c) := by simp [World.cell?, hnw]
  have q3 : V.cell? ⟨w.heap.size, 3, none⟩ = some (.int .i64 p.steps) := by simp [World.cell?, hnw]
  have e1 : ¬ p.kind < 1 := by omega
  have e2 : ¬ 6 < p.kind := by omega
  have e3 : ¬ p.n < 0 := by omega
  have e4 : ¬ (p.steps : Int) < 0 := by omega
  have HI := Lib.hid (And.intro hi0 hl)
  clear hi hout hb0 hnw hi0
  have hkb : 0 < p.n → (p.kind != 2) = false := fun h => by simp [hkn h]
  generalize p.kind = pk at *
  generalize p.n = pn at *
  generalize p.steps = ps at *
  generalize p.out = out at *
  clear hkn hk1 hk2 hn
  by_cases hp0 : 0 < pn
  all_goals
    first
      | (have hkc := hkb hp0; clear hkb)
      | clear hkb
    go_enter Tryd.func13, Tryd.ntmps13
    go_wp2_with fail
    go_loopw [3] (fun i wr => ∃ j : Nat, j ≤ out.length ∧ i = .int .i64 (j : Int) ∧ Hid (Below V.heap.size V wr)) (fun i _ => out.length - (intOf i).toNat)
    case atStart => exact ⟨0, by omega, rfl, Lib.hid (Below.refl _ _)⟩
    case round =>
      obtain ⟨j, hj, rfl, HW⟩ := hrel
      have r2 := cell_behind HW.out q2
      by_cases hlt : j < out.length
      · have hiw := HI.out.1.below (HW.out.mono HB.out.size)
        obtain ⟨b, o, rfl, hb, hcj⟩ := hiw.at_ (by omega)
        have hcc := hcj j hlt
        have hx := HO.out j hlt
        have hj0 : (0 : Int) ≤ (j : Int) := by omega
        have hjl : (j : Int) < (out.length : Int) := by omega
        have hlo : out.length ≤ 20000000000000 := by have := HI.out.2; omega
        have hw1 : IntKind.i64.wrap ((j : Int) + 1) = (j : Int) + 1 := by rw [IntKind.wrap_i64]; omega
        have HWR := Lib.hid (fun (v : World) => (show Calls Tryd.prog 30 #[.int .i64 (nth out j)] v fun e w' => e = .returned (.int .i64 (nth out j)) ∧ w' = v from (rwrap_any (nth out j) v).mono fun e w' h => ⟨by rw [h.1, hx], h.2.symm⟩))
        clear hiw hcj hx
        generalize nth out j = x at *
        go_wp2_with fail
        go_quiet ((go_at_call 30; exact Calls.quiet_of_same (HWR.out _)))
        go_wp2_with fail
        go_roundw
        case rel => exact ⟨j + 1, by omega, by go_num, Lib.hid (by first | exact below_drewN HW.out _ | exact HW.out.drew | exact (below_drewN HW.out _).drew)⟩
        case measure => simp [intOf]; omega
      · have hjl : ¬ (j : Int) < (out.length : Int) := by omega
        have HP := Lib.hid (HB.out.trans (HW.out.mono HB.out.size))
        go_wp2_with fail
        go_ret
        exact ⟨rfl, HP.out⟩
end Go.Proofs.YtnolhcdfknjncaaDoor

/-
  The plain evaluator: what it prints are ints of 31 bits; a run's end is right.
-/
set_option linter.unusedVariables false
set_option linter.unusedSimpArgs false
namespace Go.Proofs.YtnolhcdfknjncaaDoor

inductive Vok : PV → Prop
  | int (n : Int) (h : wrap31 n = n) : Vok (.int n)
  | blk (t : Int) (ks : List PV) (h : ∀ k ∈ ks, Vok k) : Vok (.blk t ks)
  | fn (i : Nat) : Vok (.fn i)
  | ref (i : Nat) : Vok (.ref i)
inductive Lit : Core → Prop
  | mk {t : Core} : (t.k = 2 → wrap31 t.n = t.n) → (∀ c ∈ t.cs, Lit c) → Lit t
def Eok (e : PEnv) : Prop := ∀ p ∈ e, Vok p.2
structure Sok (s : St) : Prop where
  fns : ∀ f ∈ s.fns, Lit f.body ∧ Eok f.env
  cells : ∀ v ∈ s.cells, Vok v
  out : ∀ x ∈ s.out, wrap31 x = x
def Rok (r : Res) : Prop := ∀ v, r = .val v ∨ r = .raised v → Vok v
def Ook (o : Out) : Prop := Rok o.1 ∧ Sok o.2
theorem w31 (n : Int) : wrap31 (wrap31 n) = wrap31 n := by unfold wrap31; omega
theorem Vok.zero : Vok (.int 0) := .int 0 (by decide)
theorem Vok.dflt : Vok default := Vok.zero
theorem Lit.dflt : Lit default := .mk (fun h => absurd h (by decide)) (fun c hc => by cases hc)
theorem Lit.kid {t : Core} (h : Lit t) {c : Core} (hc : c ∈ t.cs) : Lit c := by cases h with | mk _ h => exact h c hc
theorem Lit.kidD {t : Core} (h : Lit t) (i : Nat) : Lit (t.cs[i]?.getD default) := by
  cases hc : t.cs[i]? with
  | none => exact Lit.dflt
  | some c => exact h.kid (List.mem_of_getElem? hc)
theorem vok_get {l : List PV} (h : ∀ v ∈ l, Vok v) (i : Nat) : Vok (l[i]?.getD default) := by
  cases hc : l[i]? with
  | none => exact Vok.dflt
  | some c => exact h c (List.mem_of_getElem? hc)
theorem Ook.val {v : PV} {s : St} (hv : Vok v) (hs : Sok s) : Ook (.val v, s) := ⟨fun w h => (by rcases h with h | h <;> cases h; exact hv), hs⟩
theorem Ook.raised {v : PV} {s : St} (hv : Vok v) (hs : Sok s) : Ook (.raised v, s) := ⟨fun w h => (by rcases h with h | h <;> cases h; exact hv), hs⟩
theorem Ook.stuck {s : St} (hs : Sok s) : Ook (.stuck, s) := ⟨fun w h => (by rcases h with h | h <;> cases h), hs⟩
theorem Ook.cut {s : St} (hs : Sok s) : Ook (.cut, s) := ⟨fun w h => (by rcases h with h | h <;> cases h), hs⟩
theorem Ook.then_ {o : Out} {f : PV → St → Out} (h : Ook o) (hf : ∀ v s, Vok v → Sok s → Ook (f v s)) : Ook (Out.andThen o f) := by
  obtain ⟨r, s⟩ := o
  cases r with
  | val v => exact hf v s (h.1 v (.inl rfl)) h.2
  | raised v => exact h
  | stuck => exact h
  | cut => exact h
section
variable {inp : List Int} {rec : Core → PEnv → St → Out} (hrec : ∀ t e s, Lit t → Eok e → Sok s → Ook (rec t e s))
include hrec
theorem callP_ok {f a : PV} {s : St} (ha : Vok a) (hs : Sok s) : Ook (callP rec f a s) := by
  unfold callP
  cases f with
  | fn i =>
    have hf : Lit (s.fns[i]?.getD default).body ∧ Eok (s.fns[i]?.getD default).env := by
      cases hc : s.fns[i]? with
      | none => exact ⟨Lit.dflt, fun p hp => (by cases hp)⟩
      | some c => exact hs.fns c (List.mem_of_getElem? hc)
    exact hrec _ _ _ hf.1 (fun p hp => by
      rcases List.mem_cons.1 hp with rfl | hp
      · exact ha
      · exact hf.2 p hp) hs
  | _ => exact Ook.stuck hs
theorem evs_ok {e : PEnv} (he : Eok e) : ∀ (cs : List Core) (acc : List PV) (s : St), (∀ c ∈ cs, Lit c) → (∀ v ∈ acc, Vok v) → Sok s → (∀ vs, (evs rec e cs acc s).1 = .inr vs → ∀ v ∈ vs, Vok v) ∧ (∀ r, (evs rec e cs acc s).1 = .inl r → Rok r) ∧ Sok (evs rec e cs acc s).2
  | [], acc, s, _, ha, hs => by
    rw [evs]
    exact ⟨fun vs h => (by cases h; exact ha), fun r h => (by cases h), hs⟩
  | c :: cs, acc, s, hc, ha, hs => by
    have h := hrec c e s (hc c (by simp)) he hs
    rw [evs]
    generalize rec c e s = o at h
    obtain ⟨r, s'⟩ := o
    cases r with
    | val v => exact evs_ok he cs (acc ++ [v]) s' (fun c' h' => hc c' (by simp [h'])) (fun w hw => by
        rcases List.mem_append.1 hw with hw | hw
        · exact ha w hw
        · simp at hw; subst hw; exact h.1 _ (.inl rfl)) h.2
    | raised v => exact ⟨fun vs hh => (by cases hh), fun r hr => (by cases hr; exact h.1), h.2⟩
    | stuck => exact ⟨fun vs hh => (by cases hh), fun r hr => (by cases hr; exact h.1), h.2⟩
    | cut => exact ⟨fun vs hh => (by cases hh), fun r hr => (by cases hr; exact h.1), h.2⟩
theorem primP_ok {p : Int} {l : List PV} {s : St} (hl : ∀ v ∈ l, Vok v) (hs : Sok s) : Ook (primP inp rec p l s) := by
  have ha := vok_get hl 0
  have hb := vok_get hl 1
  unfold primP
  generalize l[0]?.getD default = a at *
  generalize l[1]?.getD default = b at *
  dsimp only
  split
  · exact Ook.val (.ref _) ⟨hs.fns, fun v hv => by
      rcases List.mem_append.1 hv with hv | hv
      · exact hs.cells v hv
      · simp at hv; subst hv; exact ha, hs.out⟩
  split
  · cases a with
    | ref i => exact Ook.val (vok_get hs.cells i) hs
    | _ => exact Ook.stuck hs
  split
  · cases a with
    | ref i => exact Ook.val Vok.zero ⟨hs.fns, fun v hv => by
        rcases List.mem_or_eq_of_mem_set hv with hv | rfl
        · exact hs.cells v hv
        · exact hb, hs.out⟩
    | _ => exact Ook.stuck hs
  split
  · cases a with
    | int n =>
      cases ha with
      | int _ h => exact Ook.val Vok.zero ⟨hs.fns, hs.cells, fun x hx => by
          rcases List.mem_append.1 hx with hx | hx
          · exact hs.out x hx
          · simp at hx; subst hx; exact h⟩
    | _ => exact Ook.stuck hs
  split
  · unfold readP
    split
    · exact Ook.val (.int _ (w31 _)) ⟨hs.fns, hs.cells, hs.out⟩
    · exact Ook.raised (.int _ (by decide)) ⟨hs.fns, hs.cells, hs.out⟩
  split
  · cases hk : keyOf a with
    | some k => exact Ook.raised ha hs
    | none => exact Ook.stuck hs
  split
  · have h := callP_ok hrec (f := a) Vok.zero hs
    generalize callP rec a (.int 0) s = o at h
    obtain ⟨r, s'⟩ := o
    cases r with
    | raised v => exact callP_ok hrec (h.1 v (.inr rfl)) h.2
    | val v => exact h
    | stuck => exact h
    | cut => exact h
  · cases a with
    | int x =>
      cases b with
      | int y =>
        cases hd : doP p x y with
        | none =>
          simp only [hd]
          exact Ook.raised Vok.zero hs
        | some n =>
          simp only [hd]
          refine Ook.val (.int _ ?_) hs
          unfold doP at hd
          dsimp only at hd
          split at hd
          · cases hd
          · simp only [Option.some.injEq] at hd
            rw [← hd]; exact w31 _
      | _ => exact Ook.stuck hs
    | _ => exact Ook.stuck hs
omit hrec in
theorem fixEnv_ok : ∀ (ks : List Int) (i : Nat) (e : PEnv), Eok e → Eok (fixEnv ks i e)
  | x :: _ :: ks, i, e, he => fixEnv_ok ks (i + 1) _ (fun p hp => by
      rcases List.mem_cons.1 hp with rfl | hp
      · exact .fn _
      · exact he p hp)
  | [], i, e, he => by simpa [fixEnv] using he
  | [_], i, e, he => by simpa [fixEnv] using he
omit hrec in
theorem fixFns_ok {env : PEnv} (he : Eok env) : ∀ (ks : List Int) (cs : List Core), (∀ c ∈ cs, Lit c) → ∀ f ∈ fixFns env ks cs, Lit f.body ∧ Eok f.env
  | _ :: p :: ks, c :: cs, hc, f, hf => by
    rw [fixFns] at hf
    rcases List.mem_cons.1 hf with rfl | hf
    · exact ⟨hc c (by simp), he⟩
    · exact fixFns_ok he ks cs (fun c' h' => hc c' (by simp [h'])) f hf
  | [], cs, _, f, hf => by simp [fixFns] at hf
  | [_], cs, _, f, hf => by simp [fixFns] at hf
  | _ :: _ :: _, [], _, f, hf => by simp [fixFns] at hf
end
section
variable {inp : List Int} {rec : Core → PEnv → St → Out} (hrec : ∀ t e s, Lit t → Eok e → Sok s → Ook (rec t e s))
include hrec
theorem bodyP_ok {t : Core} {e : PEnv} {s : St} (ht : Lit t) (he : Eok e) (hs : Sok s) : Ook (bodyP inp rec t e s) := by
  unfold bodyP
  dsimp only
  split
  · cases hl : lookup e t.n with
    | none => exact Ook.stuck hs
    | some v =>
      unfold lookup at hl
      cases hf : e.find? (fun p => p.1 == t.n) with
      | none => rw [hf] at hl; cases hl
      | some p =>
        rw [hf] at hl
        simp only [Option.map_some, Option.some.injEq] at hl
        rw [← hl]
        exact Ook.val (he p (List.mem_of_find?_eq_some hf)) hs
  split
  · rename_i h2
    have : wrap31 t.n = t.n := by cases ht with | mk h _ => exact h h2
    exact Ook.val (.int _ this) hs
  split
  · exact Ook.val (.fn _) ⟨fun f hf => by
      rcases List.mem_append.1 hf with hf | hf
      · exact hs.fns f hf
      · simp at hf; subst hf; exact ⟨ht.kidD 0, he⟩, hs.cells, hs.out⟩
  split
  · exact Ook.then_ (hrec _ _ _ (ht.kidD 0) he hs) fun f s1 hf hs1 => Ook.then_ (hrec _ _ _ (ht.kidD 1) he hs1) fun a s2 ha hs2 => callP_ok hrec ha hs2
  split
  · exact Ook.then_ (hrec _ _ _ (ht.kidD 0) he hs) fun v s1 hv hs1 => hrec _ _ _ (ht.kidD 1) (fun p hp => by
      rcases List.mem_cons.1 hp with rfl | hp
      · exact hv
      · exact he p hp) hs1
  split
  · have he' := fixEnv_ok t.ks s.fns.length e he
    refine hrec _ _ _ (ht.kidD _) he' ⟨fun f hf => ?_, hs.cells, hs.out⟩
    rcases List.mem_append.1 hf with hf | hf
    · exact hs.fns f hf
    · exact fixFns_ok he' t.ks t.cs (fun c hc => ht.kid hc) f hf
  split
  · refine Ook.then_ (hrec _ _ _ (ht.kidD 0) he hs) fun v s1 hv hs1 => ?_
    cases v with
    | blk tg l =>
      dsimp only
      split
      · cases hv with
        | blk _ _ h => exact Ook.val (vok_get h _) hs1
      · exact Ook.stuck hs1
    | _ => exact Ook.stuck hs1
  split
  · refine Ook.then_ (hrec _ _ _ (ht.kidD 0) he hs) fun v s1 hv hs1 => ?_
    cases hk : keyOf v with
    | some key => exact hrec _ _ _ (ht.kidD _) he hs1
    | none => exact Ook.stuck hs1
  · have h := evs_ok hrec he t.cs [] s (fun c hc => ht.kid hc) (fun v hv => by cases hv) hs
    generalize evs rec e t.cs [] s = r at h
    obtain ⟨r, s'⟩ := r
    cases r with
    | inl r => exact ⟨h.2.1 r rfl, h.2.2⟩
    | inr l =>
      dsimp only
      split
      · exact Ook.val (.blk _ _ (h.1 l rfl)) h.2.2
      · exact primP_ok hrec (h.1 l rfl) h.2.2
end
theorem ev_ok (inp : List Int) : ∀ (n : Nat) (t : Core) (e : PEnv) (s : St), Lit t → Eok e → Sok s → Ook (ev inp n t e s)
  | 0, t, e, s, _, _, hs => Ook.cut hs
  | n + 1, t, e, s, ht, he, hs => by
    rw [ev]
    split
    · exact Ook.cut hs
    · exact bodyP_ok (fun t e s h1 h2 h3 => ev_ok inp n t e s h1 h2 h3) ht he ⟨hs.fns, hs.cells, hs.out⟩
theorem lit_of_WT {t : Core} (h : WT t) : Lit t := by
  induction h with
  | @mk t0 hn hk ih =>
    refine .mk (fun h2 => ?_) ih
    have := hn.2.2.1
    rw [h2] at this
    simp only [numE, if_neg (show ¬ (2 : Int) = 10 by decide)] at this
    by_cases hw : wrap31 t0.n = t0.n
    · exact hw
    · exfalso; simp [hw] at this
theorem runE_right (t : Core) (inp : List Int) (f : Int) (hw : rightE t = 0 → WT t) : rightEnd (runE t inp f) := by
  unfold runE
  split
  · rename_i h0
    have h := ev_ok (inp.take 4096) (fuelOf f + 1) t [] (initSt (fuelOf f)) (lit_of_WT (hw h0)) (fun p hp => by cases hp) ⟨fun f hf => (by cases hf), fun v hv => (by cases hv), fun x hx => (by cases hx)⟩
    unfold runOut
    generalize ev (inp.take 4096) (fuelOf f + 1) t [] (initSt (fuelOf f)) = o at h
    obtain ⟨r, s⟩ := o
    have hs := h.2.out
    cases r with
    | val v => exact ⟨by simp [endOf], by simp [endOf], by simp [endOf], by simp [endOf], hs⟩
    | raised v =>
      simp only [endOf]
      split
      · rename_i hk
        exact ⟨by simp, by simp, hk, fun _ => rfl, hs⟩
      · exact ⟨by simp, by simp, by simp, fun h => absurd h (by simp), hs⟩
    | stuck => exact ⟨by simp [endOf], by simp [endOf], by simp [endOf], by simp [endOf], hs⟩
    | cut => exact ⟨by simp [endOf], by simp [endOf], by simp [endOf], by simp [endOf], hs⟩
  · exact ⟨by simp, by simp, by simp, fun h => absurd h (by simp), fun x hx => (by cases hx)⟩
end Go.Proofs.YtnolhcdfknjncaaDoor
