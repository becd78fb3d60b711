/-
 1 texts of this seat in one: FV47.
-/
import Derived.Test.YtnobggabjpcbfaaGreatQR48
set_option maxRecDepth 100000
set_option maxHeartbeats 16000000
set_option linter.unusedVariables false
set_option linter.unusedSimpArgs false
namespace Go.Proofs.YtnobggabjpcbfaaGreat
inductive Vok : PV → Prop
 | int (n : Int) (h : wrap31 n = n) : Vok (.int n)
 | blk (t : Int) (ks : List PV) (h : ∀ k ∈ ks, Vok k) : Vok (.blk t ks)
 | fn (i : Nat) : Vok (.fn i)
 | ref (i : Nat) : Vok (.ref i)
inductive LitA : Anf → Prop
 | ret {a : Atm} (h : atomB a = true) : LitA (.ret a)
 | bind {x k n : Int} {ats : List Atm} {ks : List Int} {bl : List Anf} {rest : Anf} (ha : ∀ a ∈ ats, atomB a = true) (hb : ∀ c ∈ bl, LitA c) (hr : LitA rest) : LitA (.bind x k n ats ks bl rest)
theorem numberB_lits {nf : Nat} {x k n : Int} {ats : List Atm} {ks : List Int} (h : numberB nf x k n ats ks = true) : ∀ a ∈ ats, atomB a = true := by
 simp only [numberB, Bool.and_eq_true] at h
 exact fun a ha => List.all_eq_true.1 h.2 a ha
mutual
theorem lit_of_bodyE {nf : Nat} : ∀ (a : Anf) (kn : List Int), bodyE nf kn a = 0 → LitA a
 | .ret a, kn, h => by
  unfold bodyE at h
  obtain ⟨h1, h⟩ := ite_zero h (fun _ => by decide)
  exact .ret (by simpa using h1)
 | .bind x k n ats ks bl rest, kn, h => by
  unfold bodyE at h
  obtain ⟨h1, h⟩ := ite_zero h (fun h => h)
  obtain ⟨h2, h⟩ := ite_zero h (fun _ => by decide)
  obtain ⟨h3, h⟩ := ite_zero h (fun h => h)
  exact .bind (numberB_lits (bindOk_of (by simpa using h1)).number) (lit_of_blocksE bl _ (by simpa using h3)) (lit_of_bodyE rest _ h)
theorem lit_of_blocksE {nf : Nat} : ∀ (l : List Anf) (kn : List Int), blocksE nf kn l = 0 → ∀ c ∈ l, LitA c
 | [], kn, _, c, hc => by simp at hc
 | a :: l, kn, h, c, hc => by
  unfold blocksE at h
  obtain ⟨h1, h⟩ := ite_zero h (fun h => h)
  rcases List.mem_cons.1 hc with hc | hc
  · rw [hc]; exact lit_of_bodyE a kn (by simpa using h1)
  · exact lit_of_blocksE l kn h c hc
end
theorem lit_of_funsE {nf : Nat} : ∀ (gs : List FFun), funsE nf gs = 0 → ∀ g ∈ gs, LitA g.body
 | [], _ => fun c hc => by simp at hc
 | g :: gs, h => by
  unfold funsE at h
  obtain ⟨_, h⟩ := ite_zero h (fun _ => by decide)
  obtain ⟨_, h⟩ := ite_zero h (fun _ => by decide)
  obtain ⟨h1, h⟩ := ite_zero h (fun h => h)
  have h3 := lit_of_funsE gs h
  intro c' hc'
  rcases List.mem_cons.1 hc' with rfl | hc'
  · exact lit_of_bodyE _ _ (by simpa using h1)
  · exact h3 c' hc'
theorem lit_of_rightC {p : FlatP} (h : rightC p = 0) : (∀ g ∈ p.funs, LitA g.body) ∧ LitA p.main := by
 unfold rightC at h
 obtain ⟨_, h⟩ := ite_zero h (fun _ => by decide)
 obtain ⟨_, h⟩ := ite_zero h (fun _ => by decide)
 obtain ⟨h1, h⟩ := ite_zero h (fun h => h)
 exact ⟨lit_of_funsE _ (by simpa using h1), lit_of_bodyE _ _ h⟩
def Eok (e : PEnv) : Prop := ∀ p ∈ e, Vok p.2
structure Sok (s : FSt) : Prop where
 made : ∀ c ∈ s.made, ∀ v ∈ c.2, Vok v
 cells : ∀ v ∈ s.cells, Vok v
 out : ∀ x ∈ s.out, wrap31 x = x
def Rok (r : Res) : Prop := ∀ v, r = .val v ∨ r = .raised v → Vok v
def Ook (o : FOut) : Prop := Rok o.1 ∧ Sok o.2
theorem w31 (n : Int) : wrap31 (wrap31 n) = wrap31 n := by unfold wrap31; omega
theorem Vok.zero : Vok (.int 0) := .int 0 (by decide)
theorem Vok.dflt : Vok default := Vok.zero
theorem LitA.dflt : LitA default := .ret (by decide)
theorem lit_get {l : List Anf} (h : ∀ c ∈ l, LitA c) (i : Nat) : LitA (l[i]?.getD default) := by
 cases hc : l[i]? with
 | none => exact LitA.dflt
 | some c => exact h c (List.mem_of_getElem? hc)
theorem vok_get {l : List PV} (h : ∀ v ∈ l, Vok v) (i : Nat) : Vok (l[i]?.getD default) := by
 cases hc : l[i]? with
 | none => exact Vok.dflt
 | some c => exact h c (List.mem_of_getElem? hc)
theorem Ook.val {v : PV} {s : FSt} (hv : Vok v) (hs : Sok s) : Ook (.val v, s) := ⟨fun w h => (by rcases h with h | h <;> cases h; exact hv), hs⟩
theorem Ook.raised {v : PV} {s : FSt} (hv : Vok v) (hs : Sok s) : Ook (.raised v, s) := ⟨fun w h => (by rcases h with h | h <;> cases h; exact hv), hs⟩
theorem Ook.stuck {s : FSt} (hs : Sok s) : Ook (.stuck, s) := ⟨fun w h => (by rcases h with h | h <;> cases h), hs⟩
theorem Ook.cut {s : FSt} (hs : Sok s) : Ook (.cut, s) := ⟨fun w h => (by rcases h with h | h <;> cases h), hs⟩
theorem Ook.then_ {o : FOut} {f : PV → FSt → FOut} (h : Ook o) (hf : ∀ v s, Vok v → Sok s → Ook (f v s)) : Ook (FOut.andThen o f) := by
 obtain ⟨r, s⟩ := o
 cases r with
 | val v => exact hf v s (h.1 v (.inl rfl)) h.2
 | raised v => exact h
 | stuck => exact h
 | cut => exact h
theorem atomP_ok {e : PEnv} (he : Eok e) {a : Atm} (ha : atomB a = true) {v : PV} (h : atomP e a = some v) : Vok v := by
 unfold atomP at h
 split at h
 · unfold lookup at h
   cases hf : e.find? (fun p => p.1 == a.n) with
   | none => rw [hf] at h; cases h
   | some p =>
    rw [hf] at h
    simp only [Option.map_some, Option.some.injEq] at h
    rw [← h]
    exact he p (List.mem_of_find?_eq_some hf)
 · rename_i hv
   simp only [Option.some.injEq] at h
   rw [← h]
   refine .int _ ?_
   simp only [atomB, Bool.or_eq_true] at ha
   rcases ha with ha | ha
   · exact absurd ha hv
   · have := inB_iff.1 ha
     unfold wrap31; omega
theorem atomsP_ok {e : PEnv} (he : Eok e) : ∀ (ats : List Atm) (l : List PV), (∀ a ∈ ats, atomB a = true) → atomsP e ats = some l → ∀ v ∈ l, Vok v
 | [], l, _, h => by simp only [atomsP, Option.some.injEq] at h; subst h; simp
 | a :: ats, l, ha, h => by
  unfold atomsP at h
  cases hv : atomP e a with
  | none => rw [hv] at h; cases h
  | some v =>
   rw [hv] at h
   simp only [Option.map_eq_some_iff] at h
   obtain ⟨l', h1, rfl⟩ := h
   intro w hw
   rcases List.mem_cons.1 hw with rfl | hw
   · exact atomP_ok he (ha a (by simp)) hv
   · exact atomsP_ok he ats l' (fun b hb => ha b (by simp [hb])) h1 w hw
section
variable {funs : List FFun} {inp : List Int} {rec : Anf → PEnv → FSt → FOut} (hf : ∀ g ∈ funs, LitA g.body) (hrec : ∀ t e s, LitA t → Eok e → Sok s → Ook (rec t e s))
include hrec hf
theorem callF_ok {f a : PV} {s : FSt} (ha : Vok a) (hs : Sok s) : Ook (callF funs rec f a s) := by
 unfold callF
 split
 · split
   · exact Ook.cut hs
   · split
     · split
       · rename_i g hg
         refine hrec _ _ _ (hf _ (List.mem_of_getElem? hg)) (fun p hp => ?_) ⟨hs.made, hs.cells, hs.out⟩
         simp only [List.mem_cons, List.not_mem_nil, or_false] at hp
         rcases hp with rfl | rfl
         · exact ha
         · exact .fn _
       · exact Ook.stuck hs
     · exact Ook.stuck hs
 · exact Ook.stuck hs
theorem primF_ok {p : Int} {l : List PV} {s : FSt} (hl : ∀ v ∈ l, Vok v) (hs : Sok s) : Ook (primF funs inp rec p l s) := by
 have ha := vok_get hl 0
 have hb := vok_get hl 1
 unfold primF
 generalize l[0]?.getD default = a at *
 generalize l[1]?.getD default = b at *
 dsimp only
 split
 · exact Ook.val (.ref _) ⟨hs.made, fun v hv => by
    rcases List.mem_append.1 hv with hv | hv
    · exact hs.cells v hv
    · simp at hv; subst hv; exact ha, hs.out⟩
 split
 · cases a with
   | ref i => exact Ook.val (vok_get hs.cells i) hs
   | _ => exact Ook.stuck hs
 split
 · cases a with
   | ref i => exact Ook.val Vok.zero ⟨hs.made, fun v hv => by
    rcases List.mem_or_eq_of_mem_set hv with hv | rfl
    · exact hs.cells v hv
    · exact hb, hs.out⟩
   | _ => exact Ook.stuck hs
 split
 · cases a with
   | int n =>
    cases ha with
    | int _ h => exact Ook.val Vok.zero ⟨hs.made, hs.cells, fun x hx => by
     rcases List.mem_append.1 hx with hx | hx
     · exact hs.out x hx
     · simp at hx; subst hx; exact h⟩
   | _ => exact Ook.stuck hs
 split
 · unfold readF
   split
   · exact Ook.val (.int _ (w31 _)) ⟨hs.made, hs.cells, hs.out⟩
   · exact Ook.raised (.int _ (by decide)) ⟨hs.made, hs.cells, hs.out⟩
 split
 · cases hk : keyOf a with
   | some k => exact Ook.raised ha hs
   | none => exact Ook.stuck hs
 split
 · have h := callF_ok hf hrec (f := a) Vok.zero hs
   generalize callF funs rec a (.int 0) s = o at h
   obtain ⟨r, s'⟩ := o
   cases r with
   | raised v => exact callF_ok hf hrec (h.1 v (.inr rfl)) h.2
   | val v => exact h
   | stuck => exact h
   | cut => exact h
 · cases a with
   | int x =>
    cases b with
    | int y =>
     cases hd : doP p x y with
     | none =>
      simp only [hd]
      exact Ook.raised Vok.zero hs
     | some n =>
      simp only [hd]
      refine Ook.val (.int _ ?_) hs
      unfold doP at hd
      dsimp only at hd
      split at hd
      · cases hd
      · simp only [Option.some.injEq] at hd
        rw [← hd]; exact w31 _
    | _ => exact Ook.stuck hs
   | _ => exact Ook.stuck hs
omit hrec hf in
theorem fieldF_ok {v : PV} {n : Int} {s : FSt} (hv : Vok v) (hs : Sok s) : Ook (fieldF v n s) := by
 cases v with
 | blk tg l =>
  simp only [fieldF]
  split
  · cases hv with
    | blk _ _ h => exact Ook.val (vok_get h _) hs
  · exact Ook.stuck hs
 | fn i =>
  simp only [fieldF]
  split
  · refine Ook.val (vok_get (fun w hw => ?_) _) hs
    cases hc : s.made[i]? with
    | none => rw [hc] at hw; simp [show (default : Int × List PV) = (default, default) from rfl, show (default : List PV) = [] from rfl] at hw
    | some c => rw [hc] at hw; exact hs.made c (List.mem_of_getElem? hc) w hw
  · exact Ook.stuck hs
 | _ => exact Ook.stuck hs
theorem rhsF_ok {k n : Int} {l : List PV} {ks : List Int} {bl : List Anf} {e : PEnv} {s : FSt} (hl : ∀ v ∈ l, Vok v) (hb : ∀ c ∈ bl, LitA c) (he : Eok e) (hs : Sok s) : Ook (rhsF funs inp rec k n l ks bl e s) := by
 unfold rhsF
 split
 · exact Ook.val (vok_get hl 0) hs
 split
 · exact Ook.val (.blk _ _ hl) hs
 split
 · refine Ook.val (.fn _) ⟨fun c hc => ?_, hs.cells, hs.out⟩
   rcases List.mem_append.1 hc with hc | hc
   · exact hs.made c hc
   · simp at hc; subst hc; exact hl
 split
 · exact fieldF_ok (vok_get hl 0) hs
 split
 · exact callF_ok hf hrec (vok_get hl 1) hs
 split
 · split
   · exact hrec _ _ _ (lit_get hb _) he hs
   · exact Ook.stuck hs
 · exact primF_ok hf hrec hl hs
omit hrec hf in
theorem groupEnv_ok : ∀ (ks : List Int) (i : Nat) (e : PEnv), Eok e → Eok (groupEnv ks i e)
 | x :: _ :: _ :: ks, i, e, he => groupEnv_ok ks (i + 1) _ (fun p hp => by
  rcases List.mem_cons.1 hp with rfl | hp
  · exact .fn _
  · exact he p hp)
 | [], i, e, he => by simpa [groupEnv] using he
 | [_], i, e, he => by simpa [groupEnv] using he
 | [_, _], i, e, he => by simpa [groupEnv] using he
omit hrec hf in
theorem groupMade_okv : ∀ (ks : List Int) (l : List PV), (∀ v ∈ l, Vok v) → ∀ c ∈ groupMade ks l, ∀ v ∈ c.2, Vok v
 | _ :: f :: h :: ks, l, hl, c, hc => by
  rw [groupMade] at hc
  rcases List.mem_cons.1 hc with rfl | hc
  · exact fun v hv => hl v (List.mem_of_mem_take hv)
  · exact groupMade_okv ks (l.drop h.toNat) (fun v hv => hl v (List.mem_of_mem_drop hv)) c hc
 | [], l, _, c, hc => by simp [groupMade] at hc
 | [_], l, _, c, hc => by simp [groupMade] at hc
 | [_, _], l, _, c, hc => by simp [groupMade] at hc
theorem bindF_ok {x k n : Int} {ats : List Atm} {ks : List Int} {bl : List Anf} {rest : Anf} {e : PEnv} {s : FSt} (ht : LitA (.bind x k n ats ks bl rest)) (he : Eok e) (hs : Sok s) : Ook (bindF funs inp rec x k n ats ks bl rest e s) := by
 cases ht with
 | bind ha hb hr =>
  unfold bindF
  split
  · have he' := groupEnv_ok ks s.made.length e he
    dsimp only
    split
    · rename_i l hl
      refine hrec _ _ _ hr he' ⟨fun c hc => ?_, hs.cells, hs.out⟩
      rcases List.mem_append.1 hc with hc | hc
      · exact hs.made c hc
      · exact groupMade_okv ks l (atomsP_ok he' ats l ha hl) c hc
    · exact Ook.stuck hs
  · split
    · rename_i l hl
      exact Ook.then_ (rhsF_ok hf hrec (atomsP_ok he ats l ha hl) hb he hs) fun v s1 hv hs1 => hrec _ _ _ hr (fun p hp => by
       rcases List.mem_cons.1 hp with rfl | hp
       · exact hv
       · exact he p hp) hs1
    · exact Ook.stuck hs
end
theorem evF_ok {funs : List FFun} (inp : List Int) (hf : ∀ g ∈ funs, LitA g.body) : ∀ (n : Nat) (t : Anf) (e : PEnv) (s : FSt), LitA t → Eok e → Sok s → Ook (evF funs inp n t e s)
 | 0, t, e, s, _, _, hs => Ook.cut hs
 | n + 1, .ret a, e, s, ht, he, hs => by
  unfold evF
  cases ht with
  | ret ha =>
   split
   · rename_i v hv
     exact Ook.val (atomP_ok he ha hv) hs
   · exact Ook.stuck hs
 | n + 1, .bind x k m ats ks bl rest, e, s, ht, he, hs => by
  unfold evF
  split
  · exact Ook.cut hs
  · exact bindF_ok hf (fun t e s h1 h2 h3 => evF_ok inp hf n t e s h1 h2 h3) ht he ⟨hs.made, hs.cells, hs.out⟩
theorem runE_right (p : FlatP) (inp : List Int) (f : Int) : rightEnd (runE p inp f) := by
 unfold runE
 split
 · rename_i h0
   obtain ⟨hl1, hl2⟩ := lit_of_rightC h0
   have h := evF_ok (inp.take 4096) hl1 (fuelOf f + 1) p.main [] (initF (fuelOf f)) hl2 (fun p hp => by cases hp) ⟨fun f hf => (by cases hf), fun v hv => (by cases hv), fun x hx => (by cases hx)⟩
   unfold runF
   generalize evF p.funs (inp.take 4096) (fuelOf f + 1) p.main [] (initF (fuelOf f)) = o at h
   obtain ⟨r, s⟩ := o
   have hs := h.2.out
   cases r with
   | val v => exact ⟨by simp [endF], by simp [endF], by simp [endF], by simp [endF], hs⟩
   | raised v =>
    simp only [endF]
    split
    · rename_i hk
      exact ⟨by simp, by simp, hk, fun _ => rfl, hs⟩
    · exact ⟨by simp, by simp, by simp, fun h => absurd h (by simp), hs⟩
   | stuck => exact ⟨by simp [endF], by simp [endF], by simp [endF], by simp [endF], hs⟩
   | cut => exact ⟨by simp [endF], by simp [endF], by simp [endF], by simp [endF], hs⟩
 · exact ⟨by simp, by simp, by simp, fun h => absurd h (by simp), fun x hx => (by cases hx)⟩
end Go.Proofs.YtnobggabjpcbfaaGreat
