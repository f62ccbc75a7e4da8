/-
  WHAT AN OPERATION READS AND WRITES: each operation keeps to its footprint.
-/
import Derived.Test.YtagmcgbbgjkdbaaAbs20
set_option linter.all false
namespace Go.Abs
open Go

section
variable {ρ : Nat → Option Nat} {base : Nat} {md : Nat → Nat} {call : CallF} {o : IOper} {s s1 s2 s1' s2' : St} {E1 E2 : Nat → Slot} {x : Slot}

/-- That an operation keeps to its footprint, at two states that are alike where it looks. -/
def Keeps (ρ : Nat → Option Nat) (base : Nat) (md : Nat → Nat) (call : CallF) (o : IOper) (s1 s2 : St) (x : Slot) (s1' : St) : Prop :=
  Did ρ base (o.op.wv o.maskT o.maskA) (foot md o) s1 s1' ∧ ∃ s2', runOp call base o s2 = some (x, s2') ∧ Same ρ base (o.op.wv o.maskT o.maskA) (foot md o) s1' s2'

theorem still_foot (hw : o.op.wv o.maskT o.maskA = []) (hb : o.op.wb md o.maskT o.maskA o.aid = .none) (hn : o.op.wn md = false) (h : s1' = s1 ∧ runOp call base o s2 = some (x, s2)) :
    Keeps ρ base md call o s1 s2 x s1' := by
  obtain ⟨rfl, h⟩ := h
  refine ⟨Did.refl _ _, s2, h, fun i hi => ?_, fun b hb' => ?_, fun hn' => ?_⟩
  · rw [hw] at hi; cases hi
  · simp only [foot, hb, BS.has] at hb'
  · simp only [foot, hn] at hn'; cases hn'

theorem make_foot (hw : o.op.wv o.maskT o.maskA = []) (hb : o.op.wb md o.maskT o.maskA o.aid = .ids [] [o.aid]) (hn : o.op.wn md = false) {blk : Blk}
    (h : s1' = { s1 with H := upd s1.H (base + o.aid) (some blk) } ∧ runOp call base o s2 = some (x, { s2 with H := upd s2.H (base + o.aid) (some blk) })) :
    Keeps ρ base md call o s1 s2 x s1' := by
  obtain ⟨rfl, h⟩ := h
  have hnm : ∀ b, Named ρ base [] [o.aid] b ↔ b = base + o.aid := fun b => by simp [Named]
  refine ⟨⟨fun _ _ => rfl, fun b hb' => ?_, fun _ => rfl, rfl⟩, _, h, fun i hi => ?_, fun b hb' => ?_, fun hn' => ?_⟩
  · simp only [foot, hb, BS.has, hnm] at hb'
    simp [upd, hb']
  · rw [hw] at hi; cases hi
  · simp only [foot, hb, BS.has, hnm] at hb'
    simp [upd, hb']
  · simp only [foot, hn] at hn'; cases hn'

theorem all_foot (hw : o.op.wv o.maskT o.maskA = []) (hb : o.op.wb md o.maskT o.maskA o.aid = .but [] []) (hn : o.op.wn md = false)
    (h : ∃ H', s1' = { s1 with H := H' } ∧ runOp call base o s2 = some (x, { s2 with H := H' })) : Keeps ρ base md call o s1 s2 x s1' := by
  obtain ⟨H', rfl, h⟩ := h
  refine ⟨⟨fun _ _ => rfl, fun b hb' => ?_, fun _ => rfl, rfl⟩, _, h, fun i hi => ?_, fun b hb' => rfl, fun hn' => ?_⟩
  · simp [foot, hb, BS.has, Named] at hb'
  · rw [hw] at hi; cases hi
  · simp only [foot, hn] at hn'; cases hn'

theorem loc_var {E : Nat → Slot} {mT mA : List Nat} {y : Opd} {t off : Nat} (h : addrF E mT mA y = some (.loc t off)) (hf : (mT.isEmpty && mA.isEmpty) = false) : mT.isEmpty = true ∧ t ∈ mA := by
  have := (addrF_spec h).2
  simp only [fence, Bool.and_eq_true, Bool.or_eq_true] at this
  obtain ⟨h1, h2⟩ := this
  rw [h1, Bool.true_and] at hf
  rw [hf] at h2
  exact ⟨h1, by simpa using h2⟩

theorem ref_named {E : Nat → Slot} {mT mA : List Nat} {y : Opd} {b off : Nat} (h : addrF E mT mA y = some (.ref b off)) (hm : ∀ t ∈ mT, refId (E t) = ρ t) : (fenceB mT mA).has ρ base b := by
  have hf := (addrF_spec h).2
  simp only [fence] at hf
  unfold fenceB
  by_cases h1 : mT.isEmpty = true <;> by_cases h2 : mA.isEmpty = true <;> simp only [h1, h2, if_true, if_false, Bool.false_eq_true, Bool.true_or, Bool.not_true, BS.has] at hf ⊢
  · rintro (⟨t, ht, _⟩ | ⟨t, ht, _⟩) <;> cases ht
  · simp only [Bool.or_eq_true, h1, Bool.false_eq_true, false_or, List.any_eq_true] at hf
    obtain ⟨t, ht, hh⟩ := hf
    refine .inl ⟨t, ht, ?_⟩
    rw [← hm t ht]
    cases he : E t <;> simp only [he, Slot.names, Bool.false_eq_true] at hh
    rename_i v
    cases v <;> simp only [Slot.names, Bool.false_eq_true, beq_iff_eq] at hh
    subst hh
    rfl
  · rintro (⟨t, ht, _⟩ | ⟨t, ht, _⟩) <;> cases ht

theorem call_foot (hc : CallFoot md call) {m : Nat} {f : Nat} {vs : List V} {r : V × St} {mT mA : List Nat} {F : Foot} (hmE : ∀ t ∈ mT, s1.E t = s2.E t) (hm : ∀ t ∈ mT, refId (s1.E t) = ρ t)
    (hrb : F.rb = if m = 0 then .none else .but mT mA) (hwb : F.wb = if m ≤ 1 then .none else .but mT mA) (hrn : F.rn = decide (m ≠ 0)) (hwn : F.wn = decide (1 < m)) (hmd : m = 2 ∨ m = md f)
    (hH : ∀ b, F.rb.has ρ base b → s1.H b = s2.H b) (hnx : F.rn = true → s1.next = s2.next) (hfl : s1.floor = s2.floor)
    (h : callMasked call (maskIds s1.E base mT mA) f vs s1 = some r) :
    Did ρ base [] F s1 r.2 ∧ ∃ s2', callMasked call (maskIds s2.E base mT mA) f vs s2 = some (r.1, s2') ∧ Same ρ base [] F r.2 s2' := by
  simp only [callMasked, Option.bind_eq_some_iff, Option.some.injEq] at h
  obtain ⟨⟨v, h'⟩, hcall, rfl⟩ := h
  have hmask : maskIds s2.E base mT mA = maskIds s1.E base mT mA := (mask_cg hmE).symm
  have hnm := fun b => mask_named (base := base) (mA := mA) hm b
  generalize hM : maskIds s1.E base mT mA = M at *
  by_cases hm0 : m = 0
  · -- nothing but the arguments
    have hmf : md f = 0 := by rcases hmd with h | h <;> omega
    have hk := hc.keeps f vs _ v h' (by omega) hcall
    subst hk
    have h2 := hc.pure f vs _ v _ hmf hcall ⟨fun b => if M b then none else s2.H b, s2.next, s2.floor⟩
    have e1 : (fun b => if M b = true then s1.H b else if M b = true then none else s1.H b) = s1.H := by funext b; split <;> rfl
    have e2 : (fun b => if M b = true then s2.H b else if M b = true then none else s2.H b) = s2.H := by funext b; split <;> rfl
    refine ⟨?_, s2, ?_, fun i hi => (nomatch hi), fun b hb => ?_, fun hn => ?_⟩
    · simp only [e1]; exact Did.refl _ _
    · simp only [callMasked, hmask, h2, Option.bind_some, e2]
    · rw [hwb, if_pos (by omega)] at hb; exact hb.elim
    · rw [hwn] at hn; have := of_decide_eq_true hn; omega
  · have e0 : (fun b => if M b = true then none else s2.H b) = fun b => if M b = true then none else s1.H b := by
      funext b
      split
      · rfl
      · rename_i hb
        rw [if_neg hm0] at hrb
        refine (hH b ?_).symm
        rw [hrb]
        exact fun hn => hb ((hnm b).2 hn)
    have e3 : s2.next = s1.next := (hnx (by rw [hrn]; simp [hm0])).symm
    have h2 : call f vs ⟨fun b => if M b = true then none else s2.H b, s2.next, s2.floor⟩ = some (v, h') := by rw [e0, e3, ← hfl]; exact hcall
    by_cases hm1 : m ≤ 1
    · have hmf : md f ≤ 1 := by rcases hmd with h | h <;> omega
      have hk := hc.keeps f vs _ v h' hmf hcall
      subst hk
      have e1 : (fun b => if M b = true then s1.H b else if M b = true then none else s1.H b) = s1.H := by funext b; split <;> rfl
      refine ⟨?_, { s2 with H := fun b => if M b = true then s2.H b else if M b = true then none else s1.H b, next := s1.next }, by (simp only [callMasked, hmask, h2, Option.bind_some]), fun i hi => (nomatch hi), fun b hb => ?_, fun hn => ?_⟩
      · simp only [e1]; exact Did.refl _ _
      · rw [hwb, if_pos hm1] at hb; exact hb.elim
      · rfl
    · rw [if_neg hm1] at hwb
      refine ⟨⟨fun _ _ => rfl, fun b hb => ?_, fun hn => ?_, rfl⟩, { s2 with H := fun b => if M b = true then s2.H b else h'.H b, next := h'.next }, by (simp only [callMasked, hmask, h2, Option.bind_some]), fun i hi => (nomatch hi), fun b hb => ?_, fun hn => rfl⟩
      · rw [hwb] at hb
        have : M b = true := (hnm b).2 (Classical.not_not.1 hb)
        simp [this]
      · rw [hwn] at hn; have := of_decide_eq_false hn; omega
      · rw [hwb] at hb
        have : ¬ M b = true := fun h => hb ((hnm b).1 h)
        simp [this]

end
end Go.Abs
