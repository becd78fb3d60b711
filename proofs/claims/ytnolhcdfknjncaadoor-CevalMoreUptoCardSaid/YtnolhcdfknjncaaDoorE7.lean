/-
  The program's evaluator: how the run's state is turned: a cell more, a cell set, an int printed, an int read.
-/
import Derived.Test.YtnolhcdfknjncaaDoorE6
import Derived.Maps.AppendAt
set_option linter.unusedVariables false
set_option linter.unusedSimpArgs false
namespace Go.Proofs.YtnolhcdfknjncaaDoor
open Go.RowKit

section
variable {rb B : Nat} {inp : List Int} {fuel : Nat} {s : St} {m m' : Mem} {W W' : World}
theorem Good.fnsEvo (hg : Good rb B inp fuel s m W) (hk : Evo rb m m' W W') : ∀ i (h : i < s.fns.length), ∃ b c0 c1 c2 c3 kp, m'.fa[i]? = some b ∧ At rb m' W' b (.cells #[.int .i64 s.fns[i].param, c0, c1, c2, c3, kp] 90 (0, 0)) ∧ CoreIn B W' s.fns[i].body #[c0, c1, c2, c3] ∧ WT s.fns[i].body ∧ EnvIn rb m' W' s.fns[i].env kp := fun i hi => by
  obtain ⟨b, c0, c1, c2, c3, kp, h1, h2, h3, h4, h5⟩ := hg.fns i hi
  exact ⟨b, c0, c1, c2, c3, kp, prefix_get hk.fa h1, h2.evo hk, h3.stay (hg.stay hk), h4, h5.evo hk⟩

theorem heap_set_self {b : Nat} {cs : Array Value} {T : TypeId} {fr : Nat × Nat} (h : W.heap[b]? = some (.cells cs T fr)) (o : Nat) (v : Value) : (W.setCell ⟨b, o, none⟩ v).heap[b]? = some (.cells (cs.setIfInBounds o v) T fr) := by
  simp [World.setCell, Array.getElem?_modify, h]
theorem heap_set_ne {b k : Nat} (h : k ≠ b) (o : Nat) (v : Value) : (W.setCell ⟨b, o, none⟩ v).heap[k]? = W.heap[k]? := Below.heap_setCell W _ _ k h

/-- a cell more -/
theorem Good.addCell (hg : Good rb B inp fuel s m W) {a : PV} {ga : Value} (ha : RepV rb m W a ga) :
    Good rb B inp fuel { s with cells := s.cells ++ [a] } { m with ca := m.ca ++ [W.heap.size] } (W.alloc (.cells #[ga] 127)) ∧ Evo rb m { m with ca := m.ca ++ [W.heap.size] } W (W.alloc (.cells #[ga] 127)) ∧
      RepV rb { m with ca := m.ca ++ [W.heap.size] } (W.alloc (.cells #[ga] 127)) (.ref s.cells.length) (.iface 126 (.pointer (some ⟨W.heap.size, 0, none⟩))) := by
  have hk : Evo rb m { m with ca := m.ca ++ [W.heap.size] } W (W.alloc (.cells #[ga] 127)) :=
    (Evo.alloc rb m W _).more (List.prefix_refl _) (List.prefix_append _ _) (fun k h => by
      rcases h with rfl | h | h
      · exact .inl (.inl rfl)
      · exact .inl (.inr (.inl h))
      · rcases List.mem_append.1 h with h | h
        · exact .inl (.inr (.inr h))
        · simp at h; exact .inr (by omega))
  have hgb := hg.below ((Below.refl W.heap.size W).alloc (Nat.le_refl _) (.cells #[ga] 127))
  have hrbl := hg.mutLt (k := rb) (.inl rfl)
  refine ⟨⟨hgb.Bs, hg.rbB, hg.left, hg.fuelB, hg.bnd, hgb.run, hgb.out, hg.falen, hg.fnsEvo hk, ?_, ?_, ?_, ?_, hg.rbo, ?_, ?_, hg.privEvo hk⟩, hk, .ref ?_⟩
  · simp [hg.calen]
  · intro i hi
    by_cases h : i < s.cells.length
    · obtain ⟨b, gv, h1, h2, h3⟩ := hg.cells i h
      refine ⟨b, gv, prefix_get hk.ca h1, ?_, ?_⟩
      · exact (((Below.refl W.heap.size W).alloc (Nat.le_refl _) (.cells #[ga] 127)).block b (Array.getElem?_eq_some_iff.1 h2).1).trans h2
      · simpa [List.getElem_append_left h] using h3.evo hk
    · have : i = s.cells.length := by simp at hi; omega
      subst this
      refine ⟨W.heap.size, ga, ?_, World.alloc_heap_new W _, ?_⟩
      · show (m.ca ++ [W.heap.size])[s.cells.length]? = _
        rw [← hg.calen, List.getElem?_append_right (Nat.le_refl _)]; simp
      · simpa using ha.evo hk
  · show (m.ca ++ [W.heap.size]).Nodup
    rw [List.nodup_append]
    exact ⟨hg.nodup, by simp, fun x hx y hy => by have := hg.mutLt (k := x) (.inr (.inr hx)); simp at hy; omega⟩
  · intro h
    rcases List.mem_append.1 h with h | h
    · exact hg.rbca h
    · simp at h; omega
  · intro b h
    rcases List.mem_append.1 h with h | h
    · exact hg.oca b h
    · simp at h; subst h
      intro ho
      exact absurd (hg.out.lt _ ho).2 (Nat.lt_irrefl _)
  · intro b h
    rcases List.mem_append.1 h with h | h
    · exact hg.caB b h
    · simp at h; subst h; exact hg.Bs
  · show (m.ca ++ [W.heap.size])[s.cells.length]? = _
    rw [← hg.calen, List.getElem?_append_right (Nat.le_refl _)]; simp

/-- a cell is set -/
theorem Good.setRef (hg : Good rb B inp fuel s m W) {i b : Nat} (hb : m.ca[i]? = some b) {a : PV} {ga : Value} (ha : RepV rb m W a ga) :
    Good rb B inp fuel { s with cells := s.cells.set i a } m (W.setCell ⟨b, 0, none⟩ ga) ∧ Evo rb m m W (W.setCell ⟨b, 0, none⟩ ga) := by
  have hbm : b ∈ m.ca := List.mem_of_getElem? hb
  have hk : Evo rb m m W (W.setCell ⟨b, 0, none⟩ ga) := Evo.setCell W 0 ga (.inr (.inr hbm))
  have hst := hg.stay hk
  have hne : ∀ k, k ≠ b → (W.setCell ⟨b, 0, none⟩ ga).heap[k]? = W.heap[k]? := fun k h => Below.heap_setCell W _ _ k h
  obtain ⟨Ai, ci, hr, hi, hci⟩ := hg.run
  refine ⟨⟨by simpa [World.setCell] using hg.Bs, hg.rbB, hg.left, hg.fuelB, hg.bnd, ⟨Ai, ci, (hne rb (fun e => hg.rbca (e ▸ hbm))).trans hr, hi.stay hst, hci⟩, ?_, hg.falen, hg.fnsEvo hk, by simp [hg.calen], ?_, hg.nodup, hg.rbca, hg.rbo, hg.oca, hg.caB, hg.privEvo hk⟩, hk⟩
  · refine hg.out.kept (row := some b) ⟨rfl, rfl, rfl, by simp [World.setCell], fun i hi h => hne i (fun e => h (by rw [e]))⟩ ?_
    exact .inr (hg.oca b hbm)
  · intro j hj
    have hj' : j < s.cells.length := by simpa using hj
    obtain ⟨b', gv, h1, h2, h3⟩ := hg.cells j hj'
    by_cases hji : j = i
    · subst hji
      rw [hb] at h1; cases h1
      refine ⟨b, ga, hb, ?_, by simpa using ha.evo hk⟩
      exact heap_set_self h2 0 ga
    · refine ⟨b', gv, h1, (hne b' ?_).trans h2, ?_⟩
      · rintro rfl
        have hjl : j < m.ca.length := (List.getElem?_eq_some_iff.1 h1).1
        have hil : i < m.ca.length := (List.getElem?_eq_some_iff.1 hb).1
        have hp := List.pairwise_iff_getElem.1 hg.nodup
        rw [List.getElem?_eq_getElem hjl] at h1
        rw [List.getElem?_eq_getElem hil] at hb
        simp only [Option.some.injEq] at h1 hb
        rcases Nat.lt_or_gt_of_ne hji with h | h
        · exact hp j i hjl hil h (h1.trans hb.symm)
        · exact hp i j hil hjl h (hb.trans h1.symm)
      · have : (s.cells.set i a)[j] = s.cells[j] := by simp [List.getElem_set, Ne.symm hji]
        simpa [this] using h3.evo hk

theorem Good.neRb (hg : Good rb B inp fuel s m W) {b : Nat} (hb : b ∈ m.ca) : b ≠ rb := fun e => hg.rbca (e ▸ hb)
/-- the run's own record is turned, functions and cells are as they were -/
theorem Good.turn {s' : St} (hg : Good rb B inp fuel s m W) (hk : Evo rb m m' W W') (hfns : s'.fns = s.fns) (hcells : s'.cells = s.cells) (hfa : m'.fa = m.fa) (hca : m'.ca = m.ca) (hcb : ∀ b ∈ m.ca, W'.heap[b]? = W.heap[b]?)
    (hleft : s'.left ≤ fuel) (hbnd : s'.out.length + s'.left ≤ fuel)
    (hrun : ∃ Ai ci, W'.heap[rb]? = some (.cells #[.slice Ai (inp.drop s'.asked).length ci, .int .i64 fuel, .int .i64 0, .int .i64 0, m'.vo, .int .i64 ((fuel : Int) - s'.left)] 51 (0, 0)) ∧ IntsIn B W' Ai (inp.drop s'.asked) ∧ (inp.drop s'.asked).length ≤ ci)
    (hout : W'.ownsRow B 3 1 m'.vo s'.out.length (s'.out.map (Value.int .i64))) (hrbo : m'.vo.ownBlock ≠ some rb) (hoca : ∀ b ∈ m.ca, m'.vo.ownBlock ≠ some b) : Good rb B inp fuel s' m' W' := by
  refine ⟨Nat.le_trans hg.Bs hk.size, hg.rbB, hleft, hg.fuelB, hbnd, hrun, hout, by rw [hfa, hfns]; exact hg.falen, ?_, by rw [hca, hcells]; exact hg.calen, ?_, by rw [hca]; exact hg.nodup, by rw [hca]; exact hg.rbca, hrbo, by rw [hca]; exact hoca, by rw [hca]; exact hg.caB, hg.privEvo hk⟩
  · rw [hfns]; exact hg.fnsEvo hk
  · rw [hcells]
    intro i hi
    obtain ⟨b, gv, h1, h2, h3⟩ := hg.cells i hi
    exact ⟨b, gv, prefix_get hk.ca h1, (hcb b (List.mem_of_getElem? h1)).trans h2, h3.evo hk⟩

/-- a step is taken -/
theorem Good.step (hg : Good rb B inp fuel s m W) (hl : 0 < s.left) : Good rb B inp fuel { s with left := s.left - 1 } m (W.setCell ⟨rb, 5, none⟩ (.int .i64 ((fuel : Int) - s.left + 1))) ∧ Evo rb m m W (W.setCell ⟨rb, 5, none⟩ (.int .i64 ((fuel : Int) - s.left + 1))) := by
  have hk : Evo rb m m W (W.setCell ⟨rb, 5, none⟩ (.int .i64 ((fuel : Int) - s.left + 1))) := Evo.setCell W 5 _ (.inl rfl)
  obtain ⟨Ai, ci, hr, hi, hci⟩ := hg.run
  refine ⟨hg.turn hk rfl rfl rfl rfl (fun b hb => heap_set_ne (hg.neRb hb) _ _) (by have := hg.left; show s.left - 1 ≤ fuel; omega) (by have := hg.bnd; show s.out.length + (s.left - 1) ≤ fuel; omega) ⟨Ai, ci, ?_, hi.stay (hg.stay hk), hci⟩ ?_ hg.rbo hg.oca, hk⟩
  · rw [heap_set_self hr]
    have : ((s.left - 1 : Nat) : Int) = s.left - 1 := by omega
    simp [this]
    omega
  · exact hg.out.kept (row := some rb) ⟨rfl, rfl, rfl, by simp [World.setCell], fun i hi h => heap_set_ne (fun e => h (by rw [e])) _ _⟩ (.inr hg.rbo)

/-- an int is read -/
theorem Good.read (hg : Good rb B inp fuel s m W) {Ai : Option Addr} {ci : Nat} (hi : IntsIn B W Ai (inp.drop (s.asked + 1))) (hci : (inp.drop (s.asked + 1)).length ≤ ci) :
    Good rb B inp fuel { s with asked := s.asked + 1 } m (W.setCell ⟨rb, 0, none⟩ (.slice Ai (inp.drop (s.asked + 1)).length ci)) ∧ Evo rb m m W (W.setCell ⟨rb, 0, none⟩ (.slice Ai (inp.drop (s.asked + 1)).length ci)) := by
  have hk : Evo rb m m W (W.setCell ⟨rb, 0, none⟩ (.slice Ai (inp.drop (s.asked + 1)).length ci)) := Evo.setCell W 0 _ (.inl rfl)
  obtain ⟨Ai', ci', hr, hi', hci'⟩ := hg.run
  refine ⟨hg.turn hk rfl rfl rfl rfl (fun b hb => heap_set_ne (hg.neRb hb) _ _) hg.left hg.bnd ⟨Ai, ci, ?_, hi.stay (hg.stay hk), hci⟩ ?_ hg.rbo hg.oca, hk⟩
  · rw [heap_set_self hr]
    simp
  · exact hg.out.kept (row := some rb) ⟨rfl, rfl, rfl, by simp [World.setCell], fun i hi h => heap_set_ne (fun e => h (by rw [e])) _ _⟩ (.inr hg.rbo)

/-- more was asked for than there is: nothing turns -/
theorem Good.past (hg : Good rb B inp fuel s m W) (hp : inp.length ≤ s.asked) : Good rb B inp fuel { s with asked := s.asked + 1 } m W := by
  obtain ⟨Ai, ci, hr, hi, hci⟩ := hg.run
  have h1 : inp.drop s.asked = [] := List.drop_eq_nil_iff.2 hp
  have h2 : inp.drop (s.asked + 1) = [] := List.drop_eq_nil_iff.2 (by omega)
  refine hg.turn (Evo.refl _ _ _) rfl rfl rfl rfl (fun _ _ => rfl) hg.left hg.bnd ⟨Ai, ci, ?_, ?_, ?_⟩ hg.out hg.rbo hg.oca
  · rw [hr, h1, h2]
  · rw [h2, ← h1]; exact hi
  · rw [h2]; simp

/-- an int is printed -/
theorem Good.print (hg : Good rb B inp fuel s m W) (hs : s.out.length + s.left < fuel) {W2 w1 : World} (hb2 : Below W.heap.size W W2) {n : Int} {v' : Value} (h1 : w1.ownsRow B 3 1 v' (s.out.length + 1) (s.out.map (Value.int .i64) ++ [.int .i64 n]))
    (h2 : W2.grownBy w1 m.vo.ownBlock) (hat : v'.ownBlock = m.vo.ownBlock ∨ v'.ownBlock = some W2.heap.size) :
    Good rb B inp fuel { s with out := s.out ++ [n] } { m with vo := v' } (w1.setCell ⟨rb, 4, none⟩ v') ∧ Evo rb m { m with vo := v' } W (w1.setCell ⟨rb, 4, none⟩ v') := by
  have hsz := hb2.size
  have hrbl := hg.mutLt (k := rb) (.inl rfl)
  have hk : Evo rb m { m with vo := v' } W (w1.setCell ⟨rb, 4, none⟩ v') := by
    refine ⟨h2.os.trans hb2.os, h2.tape.trans hb2.tape, h2.output.trans hb2.output, ?_, ?_, ?_, List.prefix_refl _, List.prefix_refl _, rfl⟩
    · have := h2.size; simp [World.setCell]; omega
    · intro k hk hm
      rw [heap_set_ne (fun e => hm (.inl e))]
      exact (h2.block k (by omega) (fun e => hm (.inr (.inl e.symm)))).trans (hb2.block k hk)
    · intro k hk
      rcases hk with rfl | hk | hk
      · exact .inl (.inl rfl)
      · rcases hat with h | h
        · exact .inl (.inr (.inl (h ▸ hk)))
        · have := h.symm.trans hk; simp at this; exact .inr (by omega)
      · exact .inl (.inr (.inr hk))
  have hrb' : v'.ownBlock ≠ some rb := by
    rcases hat with h | h
    · rw [h]; exact hg.rbo
    · rw [h]; simp; omega
  obtain ⟨Ai, ci, hr, hi, hci⟩ := hg.run
  refine ⟨hg.turn hk rfl rfl rfl rfl ?_ hg.left ?_ ⟨Ai, ci, ?_, hi.stay (hg.stay hk), hci⟩ ?_ hrb' ?_, hk⟩
  · intro b hb
    have hbl := hg.mutLt (k := b) (.inr (.inr hb))
    rw [heap_set_ne (hg.neRb hb)]
    exact (h2.block b (by omega) (fun e => hg.oca b hb e.symm)).trans (hb2.block b hbl)
  · show (s.out ++ [n]).length + s.left ≤ fuel
    simp; omega
  · have : w1.heap[rb]? = _ := (h2.block rb (by omega) (fun e => hg.rbo e.symm)).trans ((hb2.block rb hrbl).trans hr)
    rw [heap_set_self this]
    simp
  · have := h1.kept (w' := w1.setCell ⟨rb, 4, none⟩ v') (row := some rb) ⟨rfl, rfl, rfl, by simp [World.setCell], fun i hi h => heap_set_ne (fun e => h (by rw [e])) _ _⟩ (.inr hrb')
    simpa using this
  · intro b hb
    have hbl := hg.mutLt (k := b) (.inr (.inr hb))
    rcases hat with h | h
    · rw [h]; exact hg.oca b hb
    · rw [h]; simp; omega
end

section
variable {P : Program} (w : World)
theorem wp_append_at {o : Oper} {a : Act} {K : Act → World → Prop} {Q : Exit → Act → World → Prop} (s x : Operand) (t : TypeId)
    (ho : o.op = .call { callee := .builtin .append, args := #[s, x], argTypes := #[t, t] })
    (base : Nat) (e : TypeId) (i : TypeInfo) (z : Value) (size bytes : Nat) (ht : P.underlying t = some (.slice e)) (hi : P.info? e = some i) (hz : i.zero = some z)
    (hsize : i.size = size) (hby : i.bytes = bytes) (hzs : z.cells.size = size) (hsz : 0 < size)
    (v : Value) (n : Nat) (xs : List Value) (hs : a.eval s = v) (hown : w.ownsRow base e size v n xs)
    (ad : Addr) (m c : Nat) (news : List Value) (hx : a.eval x = .slice (some ad) m c) (hl : news.length = m * size) (hnews : ∀ j u, news[j]? = some u → w.cell? (ad.add j) = some u) (h1 : ∀ u ∈ news, u.oneCell' = true)
    (h63 : n + m ≤ maxLen) (hbytes : (n + m) * bytes ≤ 140737488355328) (hbase : base ≤ w.heap.size)
    (h : ∀ v' w', w'.ownsRow base e size v' (n + m) (xs ++ news) → w.grownBy w' v.ownBlock → (v'.ownBlock = v.ownBlock ∨ v'.ownBlock = some w.heap.size) → K (a.put o.dst v') w') : o.wp P a w K Q := by
  obtain ⟨v', w', hr, h2, h3, _, h4⟩ := run_append_own_at (P := P) w base t o.type e i z size bytes ht hi hz hsize hby hzs hsz v n xs hown ad m c news hl hnews h1 h63 hbytes hbase
  unfold Oper.wp execOp
  simp only [ho, resolve, invoke, builtin, Sem.run_bind, Sem.run_pure, Result.andThen_ok, List.map_toArray, List.map_cons, List.map_nil, hs, hx, hr]
  exact h v' w' h2 h3 h4
end
end Go.Proofs.YtnolhcdfknjncaaDoor
