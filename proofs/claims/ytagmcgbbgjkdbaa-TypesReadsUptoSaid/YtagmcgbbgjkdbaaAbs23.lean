/-
  OPERATIONS THAT DO NOT MEET CAN CHANGE PLACES.
-/
import Derived.Test.YtagmcgbbgjkdbaaAbs22
set_option linter.all false
namespace Go.Abs
open Go

section
variable {ρ : Nat → Option Nat} {base : Nat} {md : Nat → Nat} {call : CallF} {o o' : IOper} {s s1 s2 s1' s2' s12 : St} {x : Slot}

theorem put_spec {d : Option Nat} {s' : St} (h : put s d x = some s') : s'.H = s.H ∧ s'.next = s.next ∧ s'.floor = s.floor ∧ (∀ i, i ∉ d.toList → s'.E i = s.E i) ∧ ∀ i ∈ d.toList, s'.E i = x := by
  cases d with
  | none =>
    simp only [put, Option.some.injEq] at h
    subst h
    exact ⟨rfl, rfl, rfl, fun _ _ => rfl, fun i hi => by cases hi⟩
  | some d =>
    simp only [put] at h
    have : s' = { s with E := upd s.E d x } := by
      split at h
      · cases h
      · exact (Option.some.inj h).symm
    subst this
    refine ⟨rfl, rfl, rfl, fun i hi => ?_, fun i hi => ?_⟩
    · simp at hi; simp [upd, hi]
    · simp at hi; simp [upd, hi]

theorem put_alike {d : Option Nat} {s' : St} (h : put s d x = some s') (he : ∀ i ∈ d.toList, s.E i = s2.E i) : ∃ s2', put s2 d x = some s2' := by
  cases d with
  | none => exact ⟨s2, rfl⟩
  | some d =>
    simp only [put] at h ⊢
    rw [← he d (by simp)]
    cases hE : s.E d <;> simp only [hE, reduceCtorEq] at h ⊢ <;> exact ⟨_, rfl⟩

theorem wb_rb {op : IOp} {mT mA : List Nat} {aid b : Nat} (h : (op.wb md mT mA aid).has ρ base b) : (op.rb md mT mA aid).has ρ base b := by
  cases op with
  | call f as =>
    simp only [IOp.wb, IOp.rb] at h ⊢
    by_cases h1 : md f ≤ 1
    · rw [if_pos h1] at h; exact h.elim
    · rw [if_neg h1] at h; rw [if_neg (by omega)]; exact h
  | _ => first | exact h | exact False.elim h

/-- A step keeps to its footprint. -/
theorem step_foot (hc : CallFoot md call) (hfe : fenced o = true) (hm : ∀ t ∈ o.maskT, refId (s1.E t) = ρ t) (h : stepOp call base o s1 = some s1') :
    Did ρ base (foot md o).ws (foot md o) s1 s1' ∧ ∀ s2, Agree ρ base (foot md o) s1 s2 → ∃ s2', stepOp call base o s2 = some s2' ∧ Same ρ base (foot md o).ws (foot md o) s1' s2' := by
  unfold stepOp at h
  split at h
  · rename_i hgd
    have hgs : ∀ s2, Agree ρ base (foot md o) s1 s2 → guardOk s2.E o.guard = guardOk s1.E o.guard ∧ wants s2.E o.guard = wants s1.E o.guard := by
      intro s2 ha
      cases hg : o.guard with
      | none => exact ⟨rfl, rfl⟩
      | some p =>
        obtain ⟨j, b⟩ := p
        have := ha.E j (by simp [foot, hg, guardSlots])
        simp only [guardOk, wants, this, and_self]
    split at h
    · rename_i hw
      rw [Option.bind_eq_some_iff] at h
      obtain ⟨⟨x, sr⟩, hrun, hput⟩ := h
      obtain ⟨p1, p2, p3, p4, p5⟩ := put_spec hput
      have hdid := (run_foot (s2 := s1) hc hfe hm ⟨fun _ _ => rfl, fun _ _ => rfl, fun _ => rfl, rfl⟩ hrun).1
      refine ⟨⟨fun i hi => ?_, fun b hb => ?_, fun hn => ?_, ?_⟩, fun s2 ha => ?_⟩
      · simp only [foot, List.mem_append, not_or] at hi
        rw [p4 i hi.1, hdid.E i hi.2]
      · rw [p1]; exact hdid.H b hb
      · rw [p2]; exact hdid.next hn
      · rw [p3]; exact hdid.floor
      · obtain ⟨g1, g2⟩ := hgs s2 ha
        obtain ⟨_, sr2, hrun2, hsame⟩ := run_foot hc hfe hm ha hrun
        have hm2 : ∀ t ∈ o.maskT, refId (s2.E t) = ρ t := fun t ht => by rw [← ha.E t (by simp [foot, ht])]; exact hm t ht
        have hdid2 := (run_foot (s2 := s2) hc hfe hm2 ⟨fun _ _ => rfl, fun _ _ => rfl, fun _ => rfl, rfl⟩ hrun2).1
        have hdst : ∀ i ∈ o.dst.toList, sr.E i = sr2.E i := fun i hi => by
          by_cases hv : i ∈ o.op.wv o.maskT o.maskA
          · exact hsame.E i hv
          · rw [hdid.E i hv, hdid2.E i hv]
            exact ha.E i (by simp only [foot, List.mem_append]; exact .inl (.inl (.inl (.inl hi))))
        obtain ⟨s2', hput2⟩ := put_alike hput hdst
        obtain ⟨q1, q2, q3, q4, q5⟩ := put_spec hput2
        refine ⟨s2', ?_, fun i hi => ?_, fun b hb => ?_, fun hn => ?_⟩
        · unfold stepOp
          rw [g1, g2, if_pos hgd, if_pos hw, hrun2]
          exact hput2
        · by_cases hd : i ∈ o.dst.toList
          · rw [p5 i hd, q5 i hd]
          · rw [p4 i hd, q4 i hd]
            simp only [foot, List.mem_append] at hi
            exact hsame.E i (hi.resolve_left hd)
        · rw [p1, q1]; exact hsame.H b hb
        · rw [p2, q2]; exact hsame.next hn
    · rename_i hw
      obtain ⟨p1, p2, p3, p4, p5⟩ := put_spec h
      refine ⟨⟨fun i hi => ?_, fun b hb => by rw [p1], fun hn => p2, p3⟩, fun s2 ha => ?_⟩
      · simp only [foot, List.mem_append, not_or] at hi
        exact p4 i hi.1
      · obtain ⟨g1, g2⟩ := hgs s2 ha
        obtain ⟨s2', hput2⟩ := put_alike h (s2 := s2) fun i hi => ha.E i (by simp only [foot, List.mem_append]; exact .inl (.inl (.inl (.inl hi))))
        obtain ⟨q1, q2, q3, q4, q5⟩ := put_spec hput2
        refine ⟨s2', ?_, fun i hi => ?_, fun b hb => ?_, fun hn => ?_⟩
        · unfold stepOp
          rw [g1, g2, if_pos hgd, if_neg hw]
          exact hput2
        · by_cases hd : i ∈ o.dst.toList
          · rw [p5 i hd, q5 i hd]
          · rw [p4 i hd, q4 i hd]
            simp only [foot, List.mem_append] at hi
            refine ha.E i ?_
            have hv := hi.resolve_left hd
            have : i ∈ o.op.rv o.maskT o.maskA := by
              cases hop : o.op <;> simp only [hop, IOp.wv, IOp.rv, List.not_mem_nil] at hv ⊢
              exact hv
            simp [foot, this]
        · rw [p1, q1]
          refine ha.H b ?_
          exact wb_rb hb
        · rw [p2, q2]
          refine ha.next ?_
          revert hn
          simp only [foot]
          cases hop : o.op <;> simp only [IOp.wn, IOp.rn, Bool.false_eq_true, false_implies, decide_eq_true_eq, imp_self]
          omega
  · cases h

/-- Two footprints do not meet: what one writes the other neither reads nor writes. -/
structure ApartF (ρ : Nat → Option Nat) (base : Nat) (F G : Foot) : Prop where
  s1 : ∀ i ∈ F.ws, i ∉ G.rs ∧ i ∉ G.ws
  s2 : ∀ i ∈ G.ws, i ∉ F.rs
  b1 : ∀ b, F.wb.has ρ base b → ¬ G.rb.has ρ base b ∧ ¬ G.wb.has ρ base b
  b2 : ∀ b, G.wb.has ρ base b → ¬ F.rb.has ρ base b
  n1 : F.wn = true → G.rn = false ∧ G.wn = false
  n2 : G.wn = true → F.rn = false

theorem St.ext' {s t : St} (h1 : s.E = t.E) (h2 : s.H = t.H) (h3 : s.next = t.next) (h4 : s.floor = t.floor) : s = t := by
  cases s; cases t; simp_all

/-- They can change places. -/
theorem step_swap (hc : CallFoot md call) (hfe : fenced o = true) (hfe' : fenced o' = true) (hap : ApartF ρ base (foot md o) (foot md o'))
    (hm : ∀ t ∈ o.maskT, refId (s.E t) = ρ t) (hm' : ∀ t ∈ o'.maskT, refId (s.E t) = ρ t) (h1 : stepOp call base o s = some s1) (h2 : stepOp call base o' s1 = some s12) :
    ∃ s2, stepOp call base o' s = some s2 ∧ stepOp call base o s2 = some s12 := by
  obtain ⟨d1, k1⟩ := step_foot hc hfe hm h1
  have hm1 : ∀ t ∈ o'.maskT, refId (s1.E t) = ρ t := fun t ht => by
    rw [d1.E t fun hw => (hap.s1 t hw).1 (by simp [foot, ht])]
    exact hm' t ht
  obtain ⟨d2, k2⟩ := step_foot hc hfe' hm1 h2
  -- the second one at the first state
  have a2 : Agree ρ base (foot md o') s1 s := ⟨fun i hi => d1.E i fun hw => (hap.s1 i hw).1 hi, fun b hb => d1.H b fun hw => (hap.b1 b hw).1 hb, fun hn => d1.next (by
    cases hw : (foot md o).wn with
    | false => rfl
    | true => rw [(hap.n1 hw).1] at hn; cases hn), d1.floor⟩
  obtain ⟨s2, hs2, e2⟩ := k2 s a2
  obtain ⟨d3, _⟩ := step_foot hc hfe' hm' hs2
  have a1 : Agree ρ base (foot md o) s s2 := ⟨fun i hi => (d3.E i fun hw => hap.s2 i hw hi).symm, fun b hb => (d3.H b fun hw => hap.b2 b hw hb).symm, fun hn => (d3.next (by
    cases hw : (foot md o').wn with
    | false => rfl
    | true => rw [hap.n2 hw] at hn; cases hn)).symm, d3.floor.symm⟩
  obtain ⟨s21, hs21, e1⟩ := k1 s2 a1
  have hm2 : ∀ t ∈ o.maskT, refId (s2.E t) = ρ t := fun t ht => by
    rw [d3.E t fun hw => hap.s2 t hw (by simp [foot, ht])]
    exact hm t ht
  obtain ⟨d4, _⟩ := step_foot hc hfe hm2 hs21
  refine ⟨s2, hs2, ?_⟩
  rw [hs21]
  congr 1
  refine St.ext' ?_ ?_ ?_ ?_
  · funext i
    by_cases hw : i ∈ (foot md o).ws
    · rw [← e1.E i hw, d2.E i (hap.s1 i hw).2]
    · rw [d4.E i hw]
      by_cases hw' : i ∈ (foot md o').ws
      · exact (e2.E i hw').symm
      · rw [d3.E i hw', d2.E i hw', d1.E i hw]
  · funext b
    by_cases hw : (foot md o).wb.has ρ base b
    · rw [← e1.H b hw, d2.H b (hap.b1 b hw).2]
    · rw [d4.H b hw]
      by_cases hw' : (foot md o').wb.has ρ base b
      · exact (e2.H b hw').symm
      · rw [d3.H b hw', d2.H b hw', d1.H b hw]
  · cases hw : (foot md o).wn with
    | true => rw [← e1.next hw, d2.next (hap.n1 hw).2]
    | false =>
      rw [d4.next hw]
      cases hw' : (foot md o').wn with
      | true => exact (e2.next hw').symm
      | false => rw [d3.next hw', d2.next hw', d1.next hw]
  · rw [d4.floor, d3.floor, d2.floor, d1.floor]

end
end Go.Abs
