/-
  REGIONS OF OPEN ORDER: every order that the language allows comes to the same.
-/
import Derived.Test.YtagmcgbbgjkdbaaAbs23
import Derived.Orders
set_option linter.all false
namespace Go.Abs
open Go

/-! ### what the kernel looks at -/

def BS.apart : BS → BS → Bool
  | .none, _ => true
  | _, .none => true
  | .ids ts as, .ids ts' as' => (ts.isEmpty || ts'.isEmpty) && as.all fun a => !as'.contains a
  | .ids ts as, .but ts' as' => ts.all ts'.contains && as.all as'.contains
  | .but ts as, .ids ts' as' => ts'.all ts.contains && as'.all as.contains
  | .but _ _, .but _ _ => false

def Foot.apart (F G : Foot) : Bool :=
  F.ws.all (fun i => !G.rs.contains i && !G.ws.contains i) && G.ws.all (fun i => !F.rs.contains i) &&
  F.wb.apart G.rb && F.wb.apart G.wb && G.wb.apart F.rb && (!F.wn || (!G.rn && !G.wn)) && (!G.wn || !F.rn)

/-- Each predecessor that a mask names is named by an operation that comes before, or is one. -/
def masksOk (ops : Array Oper) (ms : List Nat) : Bool :=
  (List.range ops.size).all fun j =>
    match ops[j]? with
    | some o => (o.after.toList.all fun e => !Region.binds .any e || decide (e.on < j)) &&
        (List.range j).all fun a => !(ms.getD j 0).testBit a || o.after.toList.any fun e => Region.binds .any e && (e.on == a || (decide (a < e.on) && (ms.getD e.on 0).testBit a))
    | none => false

def pairsOk (md : Nat → Nat) (ios : List IOper) (ms : List Nat) : Bool :=
  (List.range ios.length).all fun j => (List.range j).all fun i =>
    (ms.getD j 0).testBit i || match ios[i]?, ios[j]? with
      | some x, some y => (foot md x).apart (foot md y)
      | _, _ => false

def maskSlotsOk (md : Nat → Nat) (ios : List IOper) : Bool :=
  let ws := ios.flatMap fun o => (foot md o).ws
  ios.all fun o => o.maskT.all fun t => !ws.contains t

def drawOK (md : Nat → Nat) (_n _na : Nat) (ios : List IOper) (ops : Array Oper) : Bool :=
  let ms := (Region.before ops).toList
  ios.all fenced && maskSlotsOk md ios && masksOk ops ms && pairsOk md ios ms

section
variable {P : Program} {ρ : Nat → Option Nat} {n na base : Nat} {md : Nat → Nat} {call : CallF} {c : Ctx} {o o' : IOper} {Γ : Imm} {L : Locs} {s s1 s2 s' : St} {a : Act} {w : World} {ops : Array Oper}

theorem BS.apart_spec (hρ : ∀ t b, ρ t = some b → b < base) {A B : BS} (h : A.apart B = true) : ∀ b, A.has ρ base b → ¬ B.has ρ base b := by
  intro b ha hb
  cases A with
  | none => exact ha
  | ids ts as =>
    cases B with
    | none => exact hb
    | ids ts' as' =>
      simp only [BS.apart, Bool.and_eq_true, Bool.or_eq_true, List.isEmpty_iff, List.all_eq_true, Bool.not_eq_true', List.contains_eq_mem, decide_eq_false_iff_not] at h
      rcases ha with ⟨t, ht, ht'⟩ | ⟨x, hx, hx'⟩ <;> rcases hb with ⟨u, hu, hu'⟩ | ⟨y, hy, hy'⟩
      · rcases h.1 with e | e <;> subst e
        · cases ht
        · cases hu
      · have := hρ t b ht'; omega
      · have := hρ u b hu'; omega
      · have : x = y := by omega
        subst this
        exact h.2 x hx hy
    | but ts' as' =>
      simp only [BS.apart, Bool.and_eq_true, List.all_eq_true, List.contains_eq_mem, decide_eq_true_eq] at h
      refine hb ?_
      rcases ha with ⟨t, ht, ht'⟩ | ⟨x, hx, hx'⟩
      · exact .inl ⟨t, h.1 t ht, ht'⟩
      · exact .inr ⟨x, h.2 x hx, hx'⟩
  | but ts as =>
    cases B with
    | none => exact hb
    | ids ts' as' =>
      simp only [BS.apart, Bool.and_eq_true, List.all_eq_true, List.contains_eq_mem, decide_eq_true_eq] at h
      refine ha ?_
      rcases hb with ⟨t, ht, ht'⟩ | ⟨x, hx, hx'⟩
      · exact .inl ⟨t, h.1 t ht, ht'⟩
      · exact .inr ⟨x, h.2 x hx, hx'⟩
    | but ts' as' => simp [BS.apart] at h

theorem Foot.apart_spec (hρ : ∀ t b, ρ t = some b → b < base) {F G : Foot} (h : F.apart G = true) : ApartF ρ base F G := by
  simp only [Foot.apart, Bool.and_eq_true, List.all_eq_true, Bool.or_eq_true, Bool.not_eq_true', List.contains_eq_mem, decide_eq_false_iff_not] at h
  obtain ⟨⟨⟨⟨⟨⟨h1, h2⟩, h3⟩, h4⟩, h5⟩, h6⟩, h7⟩ := h
  refine ⟨h1, h2, fun b hb => ⟨BS.apart_spec hρ h3 b hb, BS.apart_spec hρ h4 b hb⟩, BS.apart_spec hρ h5, fun hn => ?_, fun hn => ?_⟩
  · rcases h6 with h | h
    · rw [hn] at h; cases h
    · exact h
  · rcases h7 with h | h
    · rw [hn] at h; cases h
    · exact h

/-- What the masks' slots say stays. -/
def MaskInv (ρ : Nat → Option Nat) (ios : List IOper) (s : St) : Prop := ∀ o ∈ ios, ∀ t ∈ o.maskT, refId (s.E t) = ρ t

theorem MaskInv.step {all : List IOper} (hc : CallFoot md call) (hms : maskSlotsOk md all = true) (hmem : o ∈ all) (hfe : fenced o = true) (hi : MaskInv ρ all s) (h : stepOp call base o s = some s1) : MaskInv ρ all s1 := by
  intro o' ho' t ht
  have hd := (step_foot hc hfe (hi o hmem) h).1
  rw [hd.E t ?_]
  · exact hi o' ho' t ht
  · simp only [maskSlotsOk, List.all_eq_true, Bool.not_eq_true', List.contains_eq_mem, decide_eq_false_iff_not] at hms
    exact fun hw => hms o' ho' t ht (List.mem_flatMap.2 ⟨o, hmem, hw⟩)

/-- An operation that meets none of those before it may come first. -/
theorem bubble {all : List IOper} (hc : CallFoot md call) (hms : maskSlotsOk md all = true) (hfe : ∀ o ∈ all, fenced o = true) :
    ∀ (A : List IOper) (B : List IOper) (s : St), (∀ x ∈ A, x ∈ all ∧ ApartF ρ base (foot md x) (foot md o)) → o ∈ all → MaskInv ρ all s → stepOps call base (A ++ o :: B) s = some s' →
      ∃ s1, stepOp call base o s = some s1 ∧ stepOps call base (A ++ B) s1 = some s'
  | [], B, s, _, _, _, h => by
    simp only [List.nil_append, stepOps, Option.bind_eq_some_iff] at h ⊢
    exact h
  | x :: A, B, s, hA, ho, hi, h => by
    simp only [List.cons_append, stepOps, Option.bind_eq_some_iff] at h
    obtain ⟨sa, h1, h2⟩ := h
    obtain ⟨hx, hap⟩ := hA x (by simp)
    obtain ⟨s1, h3, h4⟩ := bubble hc hms hfe A B sa (fun y hy => hA y (by simp [hy])) ho (hi.step hc hms hx (hfe x hx) h1) h2
    obtain ⟨s2, h5, h6⟩ := step_swap hc (hfe x hx) (hfe o ho) hap (hi x hx) (hi o ho) h1 h3
    refine ⟨s2, h5, ?_⟩
    simp only [List.cons_append, stepOps, h6, Option.bind_some]
    exact h4

theorem Good.drawn {tmps : Array Value} (hg : Good c n Γ L s tmps w) (k : Nat) : Good c n Γ L s tmps { w with drawn := k } :=
  ⟨⟨hg.f.size, ⟨hg.f.heap.imm, hg.f.heap.cells, hg.f.heap.perm, hg.f.heap.map, hg.f.heap.inj, hg.f.heap.fresh⟩, hg.f.val, hg.f.var, hg.f.varInj, hg.f.lref⟩,
   ⟨hg.since.imm, hg.since.locs, hg.since.os, hg.since.tape, hg.since.output, hg.since.size, hg.since.block, hg.since.low, hg.since.dead, hg.since.own, hg.since.floor, hg.since.next⟩⟩

/-! ### lists of places -/

/-- What is not listed yet, in the text's order. -/
def rest (m : Nat) (listed : Array Bool) : List Nat := (List.range m).filter fun i => !listed.getD i true

theorem range_split {m i : Nat} (h : i < m) : List.range m = List.range i ++ i :: List.range' (i + 1) (m - i - 1) := by
  rw [List.range_eq_range', List.range_eq_range', show m = i + ((m - i - 1) + 1) by omega, ← List.range'_append_1, List.range'_succ]
  simp only [Nat.zero_add]
  congr 3
  omega

theorem getD_set_self {listed : Array Bool} {i : Nat} (h : i < listed.size) (d : Bool) : (listed.setIfInBounds i true).getD i d = true := by
  simp [h]

theorem rest_split {m i : Nat} {listed : Array Bool} (hm : listed.size = m) (hi : i < m) (hu : listed.getD i true = false) :
    ∃ A B, rest m listed = A ++ i :: B ∧ rest m (listed.setIfInBounds i true) = A ++ B ∧ ∀ x ∈ A, x < i ∧ listed.getD x true = false := by
  refine ⟨(List.range i).filter fun j => !listed.getD j true, (List.range' (i + 1) (m - i - 1)).filter fun j => !listed.getD j true, ?_, ?_, fun x hx => ?_⟩
  · unfold rest
    rw [range_split hi, List.filter_append, List.filter_cons, hu]
    rfl
  · unfold rest
    rw [range_split hi, List.filter_append, List.filter_cons, getD_set_self (by omega)]
    simp only [Bool.not_true, Bool.false_eq_true, if_false]
    congr 1
    · refine List.filter_congr fun x hx => ?_
      have := List.mem_range.1 hx
      rw [getD_set_ne true (by omega)]
    · refine List.filter_congr fun x hx => ?_
      have := (List.mem_range'_1.1 hx).1
      rw [getD_set_ne true (by omega)]
  · rw [List.mem_filter, List.mem_range] at hx
    exact ⟨hx.1, by simpa using hx.2⟩

theorem sel_all {α : Type} : ∀ l : List α, (List.range l.length).filterMap (fun i => l[i]?) = l
  | [] => rfl
  | x :: l => by
    rw [List.length_cons, List.range_succ_eq_map, List.filterMap_cons]
    simp only [List.getElem?_cons_zero, List.filterMap_map, Function.comp_def, List.getElem?_cons_succ]
    rw [sel_all l]

end
end Go.Abs
