/-
  WHAT AN OPERATION READS AND WRITES: slots, blocks, the next id. (For regions of open order.)
-/
import Derived.Test.YtagmcgbbgjkdbaaAbs19
set_option linter.all false
namespace Go.Abs
open Go

/-- A set of blocks: none; those that slots name and those that operations of the region make; all but such. -/
inductive BS where
  | none
  | ids (ts : List Nat) (as : List Nat)
  | but (ts : List Nat) (as : List Nat)

def refId (s : Slot) : Option Nat := match s with | .val (.ref b _) => some b | _ => Option.none

def Named (ρ : Nat → Option Nat) (base : Nat) (ts as : List Nat) (b : Nat) : Prop := (∃ t ∈ ts, ρ t = some b) ∨ (∃ a ∈ as, b = base + a)

def BS.has (ρ : Nat → Option Nat) (base : Nat) : BS → Nat → Prop
  | .none, _ => False
  | .ids ts as, b => Named ρ base ts as b
  | .but ts as, b => ¬ Named ρ base ts as b

structure Foot where
  rs : List Nat
  ws : List Nat
  rb : BS
  wb : BS
  rn : Bool
  wn : Bool

def fenceB (mT mA : List Nat) : BS :=
  if mT.isEmpty then (if mA.isEmpty then .but [] [] else .none) else (if mA.isEmpty then .ids mT [] else .but [] [])

def IOp.rb (md : Nat → Nat) (mT mA : List Nat) (aid : Nat) : IOp → BS
  | .load .. | .store .. => fenceB mT mA
  | .len k _ => if k = .mp then .but [] [] else .none
  | .eq _ ty _ _ => (match ty with | .ptr => .but [] [] | _ => .none)
  | .lookup .. | .append .. | .mapupd .. | .mapdel .. | .strOf .. => .but [] []
  | .allocH _ | .boxH _ | .newPerm _ | .mkslice .. | .mkmap => .ids [] [aid]
  | .buildS mu .. => if mu then .ids [] [aid] else .none
  | .call f _ => if md f = 0 then .none else .but mT mA
  | .callv .. => .but mT mA
  | _ => .none

def IOp.wb (md : Nat → Nat) (mT mA : List Nat) (aid : Nat) : IOp → BS
  | .store .. => fenceB mT mA
  | .append .. | .mapupd .. | .mapdel .. => .but [] []
  | .allocH _ | .boxH _ | .newPerm _ | .mkslice .. | .mkmap => .ids [] [aid]
  | .buildS mu .. => if mu then .ids [] [aid] else .none
  | .call f _ => if md f ≤ 1 then .none else .but mT mA
  | .callv .. => .but mT mA
  | _ => .none

def IOp.rn (md : Nat → Nat) : IOp → Bool
  | .call f _ => decide (md f ≠ 0)
  | .callv .. => true
  | _ => false

def IOp.wn (md : Nat → Nat) : IOp → Bool
  | .call f _ => decide (1 < md f)
  | .callv .. => true
  | _ => false

/-- The variables that it reads beside its slots, and writes. -/
def IOp.rv (mT mA : List Nat) : IOp → List Nat
  | .load .. | .store .. => if mT.isEmpty then mA else []
  | _ => []

def IOp.wv (mT mA : List Nat) : IOp → List Nat
  | .store .. => if mT.isEmpty then mA else []
  | _ => []

def guardSlots : Option (Nat × Bool) → List Nat
  | some (j, _) => [j]
  | none => []

def foot (md : Nat → Nat) (o : IOper) : Foot where
  rs := o.dst.toList ++ guardSlots o.guard ++ o.op.slots ++ o.maskT ++ o.op.rv o.maskT o.maskA
  ws := o.dst.toList ++ o.op.wv o.maskT o.maskA
  rb := o.op.rb md o.maskT o.maskA o.aid
  wb := o.op.wb md o.maskT o.maskA o.aid
  rn := o.op.rn md
  wn := o.op.wn md

/-- In a region of open order each load and store says what it reads. -/
def fenced (o : IOper) : Bool :=
  match o.op with
  | .load .. | .store .. => !(o.maskT.isEmpty && o.maskA.isEmpty)
  | _ => true

/-- What a table of calls promises: functions of mode 0 look at nothing but their arguments, of mode 1 write nothing. -/
structure CallFoot (md : Nat → Nat) (call : CallF) : Prop where
  keeps : ∀ f args h v h', md f ≤ 1 → call f args h = some (v, h') → h' = h
  pure : ∀ f args h v h', md f = 0 → call f args h = some (v, h') → ∀ h2, call f args h2 = some (v, h2)
  floor : FloorOK call

section
variable {ρ : Nat → Option Nat} {base : Nat} {md : Nat → Nat} {call : CallF} {o : IOper} {s s1 s2 s1' s2' : St} {E1 E2 : Nat → Slot} {x : Slot}

theorem eval_cg {x : Opd} (h : ∀ i ∈ x.slots, E1 i = E2 i) : x.eval E1 = x.eval E2 := by
  cases x with
  | t i => simp [Opd.eval, h i (by simp [Opd.slots])]
  | k v => rfl

theorem addrOf_cg {x : Opd} (h : ∀ i ∈ x.slots, E1 i = E2 i) : addrOf E1 x = addrOf E2 x := by
  cases x with
  | t i => simp [addrOf, h i (by simp [Opd.slots])]
  | k v => rfl

theorem evals_cg : ∀ {xs : List Opd}, (∀ i ∈ xs.flatMap Opd.slots, E1 i = E2 i) → Opd.evals E1 xs = Opd.evals E2 xs
  | [], _ => rfl
  | x :: xs, h => by
    simp only [Opd.evals]
    rw [eval_cg fun i hi => h i (by simp [hi]), evals_cg fun i hi => h i (by rw [List.flatMap_cons]; exact List.mem_append_right _ hi)]

theorem parts_cg : ∀ {ps : List (Nat × Nat × Opd)}, (∀ i ∈ ps.flatMap (fun p => p.2.2.slots), E1 i = E2 i) → evalParts E1 ps = evalParts E2 ps
  | [], _ => rfl
  | (a, b, x) :: ps, h => by
    simp only [evalParts]
    rw [eval_cg fun i hi => h i (by rw [List.flatMap_cons]; exact List.mem_append_left _ hi), parts_cg fun i hi => h i (by rw [List.flatMap_cons]; exact List.mem_append_right _ hi)]

theorem bnd_cg {x : Option Opd} {d n : Nat} (h : ∀ i ∈ optSlots x, E1 i = E2 i) : bnd? E1 x d n = bnd? E2 x d n := by
  cases x with
  | none => rfl
  | some o => simp only [bnd?]; rw [eval_cg h]

theorem fence_cg {mT mA : List Nat} {a : AV} (h : ∀ t ∈ mT, E1 t = E2 t) : fence E1 mT mA a = fence E2 mT mA a := by
  have : ∀ b, (mT.any fun t => (E1 t).names b) = (mT.any fun t => (E2 t).names b) := by
    intro b
    rw [Bool.eq_iff_iff, List.any_eq_true, List.any_eq_true]
    constructor <;> rintro ⟨t, ht, hh⟩ <;> refine ⟨t, ht, ?_⟩
    · rw [← h t ht]; exact hh
    · rw [h t ht]; exact hh
  cases a with
  | ref b off => simp only [fence, this]
  | _ => rfl

theorem addrF_cg {mT mA : List Nat} {x : Opd} (h : ∀ i ∈ x.slots, E1 i = E2 i) (hm : ∀ t ∈ mT, E1 t = E2 t) : addrF E1 mT mA x = addrF E2 mT mA x := by
  simp only [addrF, addrOf_cg h, fence_cg hm]

theorem mask_cg {mT mA : List Nat} (hm : ∀ t ∈ mT, E1 t = E2 t) : maskIds E1 base mT mA = maskIds E2 base mT mA := by
  funext b
  have : (mT.any fun t => (E1 t).names b) = (mT.any fun t => (E2 t).names b) := by
    rw [Bool.eq_iff_iff, List.any_eq_true, List.any_eq_true]
    constructor <;> rintro ⟨t, ht, hh⟩ <;> refine ⟨t, ht, ?_⟩
    · rw [← hm t ht]; exact hh
    · rw [hm t ht]; exact hh
  simp only [maskIds, this]

theorem mask_named {mT mA : List Nat} (hm : ∀ t ∈ mT, refId (E1 t) = ρ t) (b : Nat) : maskIds E1 base mT mA b = true ↔ Named ρ base mT mA b := by
  simp only [maskIds, Bool.or_eq_true, List.any_eq_true, beq_iff_eq, Named]
  constructor
  · rintro (⟨a, ha, rfl⟩ | ⟨t, ht, hh⟩)
    · exact .inr ⟨a, ha, rfl⟩
    · refine .inl ⟨t, ht, ?_⟩
      rw [← hm t ht]
      cases he : E1 t <;> simp only [he, Slot.names, Bool.false_eq_true] at hh
      rename_i v
      cases v <;> simp only [Slot.names, Bool.false_eq_true, beq_iff_eq] at hh
      subst hh
      rfl
  · rintro (⟨t, ht, hh⟩ | ⟨a, ha, rfl⟩)
    · refine .inr ⟨t, ht, ?_⟩
      rw [← hm t ht] at hh
      cases he : E1 t <;> simp only [he, refId, reduceCtorEq] at hh
      rename_i v
      cases v <;> simp only [reduceCtorEq, Option.some.injEq] at hh
      simp [Slot.names, hh]
    · exact .inl ⟨a, ha, rfl⟩

/-- What an operation looks at is alike. -/
structure Agree (ρ : Nat → Option Nat) (base : Nat) (F : Foot) (s1 s2 : St) : Prop where
  E : ∀ i ∈ F.rs, s1.E i = s2.E i
  H : ∀ b, F.rb.has ρ base b → s1.H b = s2.H b
  next : F.rn = true → s1.next = s2.next
  floor : s1.floor = s2.floor

/-- What it does not write is as it was. -/
structure Did (ρ : Nat → Option Nat) (base : Nat) (ws : List Nat) (F : Foot) (s s' : St) : Prop where
  E : ∀ i, i ∉ ws → s'.E i = s.E i
  H : ∀ b, ¬ F.wb.has ρ base b → s'.H b = s.H b
  next : F.wn = false → s'.next = s.next
  floor : s'.floor = s.floor

/-- What it writes is alike. -/
structure Same (ρ : Nat → Option Nat) (base : Nat) (ws : List Nat) (F : Foot) (s1 s2 : St) : Prop where
  E : ∀ i ∈ ws, s1.E i = s2.E i
  H : ∀ b, F.wb.has ρ base b → s1.H b = s2.H b
  next : F.wn = true → s1.next = s2.next

theorem Did.refl (ws : List Nat) (F : Foot) : Did ρ base ws F s s := ⟨fun _ _ => rfl, fun _ _ => rfl, fun _ => rfl, rfl⟩

/-- An operation that changes no state. -/
structure Still (call : CallF) (base : Nat) (o : IOper) (s1 s2 : St) (x : Slot) (s1' : St) : Prop where
  same : s1' = s1
  run : runOp call base o s2 = some (x, s2)

theorem pure_case {A1 A2 : Option V} (h : (A1.bind fun v => some (Slot.val v, s1)) = some (x, s1')) (e : A1 = A2) : s1' = s1 ∧ (A2.bind fun v => some (Slot.val v, s2)) = some (x, s2) := by
  subst e
  cases A1 with
  | none => cases h
  | some v =>
    simp only [Option.bind_some, Option.some.injEq, Prod.mk.injEq] at h ⊢
    exact ⟨h.2.symm, h.1, trivial⟩

theorem slot_case {α : Type} {A1 A2 : Option α} {f : α → Slot} (h : (A1.bind fun v => some (f v, s1)) = some (x, s1')) (e : A1 = A2) : s1' = s1 ∧ (A2.bind fun v => some (f v, s2)) = some (x, s2) := by
  subst e
  cases A1 with
  | none => cases h
  | some v =>
    simp only [Option.bind_some, Option.some.injEq, Prod.mk.injEq] at h ⊢
    exact ⟨h.2.symm, h.1, trivial⟩

theorem Still.of {e : Option (Slot × St)} (h : s1' = s1 ∧ e = some (x, s2)) (he : runOp call base o s2 = e) : Still call base o s1 s2 x s1' := ⟨h.1, he.trans h.2⟩
end
end Go.Abs
