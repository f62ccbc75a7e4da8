/-
  REGIONS OF OPEN ORDER: the proof.
-/
import Derived.Test.YtagmcgbbgjkdbaaAbs24
set_option linter.all false
namespace Go.Abs
open Go

section
variable {P : Program} {ρ : Nat → Option Nat} {n na base : Nat} {md : Nat → Nat} {call : CallF} {c : Ctx} {o o' : IOper} {Γ : Imm} {L : Locs} {s s1 s2 s' : St} {a : Act} {w : World} {ops : Array Oper} {ms : List Nat} {listed : Array Bool} {ios : List IOper} {Q : Exit → Act → World → Prop}

def DownClosed (ops : Array Oper) (listed : Array Bool) : Prop :=
  ∀ (j : Nat) (o : Oper), ops[j]? = some o → listed.getD j true = true → ∀ e ∈ o.after, Region.binds .any e = true → listed.getD e.on false = true

theorem masks_spec (h : masksOk ops ms = true) {j : Nat} {o : Oper} (ho : ops[j]? = some o) : (∀ e ∈ o.after, Region.binds .any e = true → e.on < j) ∧
    ∀ x, x < j → (ms.getD j 0).testBit x = true → ∃ e ∈ o.after, Region.binds .any e = true ∧ (e.on = x ∨ x < e.on ∧ (ms.getD e.on 0).testBit x = true) := by
  simp only [masksOk, List.all_eq_true, List.mem_range] at h
  have h1 := h j (Array.getElem?_eq_some_iff.1 ho).1
  rw [ho] at h1
  simp only [Bool.and_eq_true, List.all_eq_true, Bool.or_eq_true, Bool.not_eq_true', decide_eq_true_eq, List.mem_range, List.any_eq_true, beq_iff_eq] at h1
  refine ⟨fun e he hb => ?_, fun x hx ht => ?_⟩
  · rcases h1.1 e (by simpa using he) with hh | hh
    · rw [hb] at hh; cases hh
    · exact hh
  · rcases h1.2 x hx with hh | ⟨e, he, hh⟩
    · rw [ht] at hh; cases hh
    · exact ⟨e, by simpa using he, hh⟩

theorem closed_listed (hm : masksOk ops ms = true) (hsz : listed.size = ops.size) (hdc : DownClosed ops listed) : ∀ (j : Nat) (o : Oper), ops[j]? = some o → (∀ e ∈ o.after, Region.binds .any e = true → listed.getD e.on false = true) →
    ∀ x, x < j → (ms.getD j 0).testBit x = true → listed.getD x false = true := by
  intro j
  induction j using Nat.strongRecOn with
  | ind j ih =>
    intro o ho hall x hx ht
    obtain ⟨k1, k2⟩ := masks_spec hm ho
    obtain ⟨e, he, hb, hh⟩ := k2 x hx ht
    rcases hh with rfl | ⟨hlt, hbit⟩
    · exact hall e he hb
    · have hlj := k1 e he hb
      have hj : j < ops.size := (Array.getElem?_eq_some_iff.1 ho).1
      have hoe : ops[e.on]? = some ops[e.on] := Array.getElem?_eq_getElem (by omega)
      refine ih e.on hlj _ hoe (fun e' he' hb' => hdc e.on _ hoe ?_ e' he' hb') x hlt hbit
      have := hall e he hb
      have hlt' : e.on < listed.size := by omega
      simp only [Array.getD_eq_getD_getElem?, Array.getElem?_eq_getElem hlt', Option.getD_some] at this ⊢
      exact this

theorem getD_both {x : Nat} (h : x < listed.size) : listed.getD x true = listed.getD x false := by
  simp only [Array.getD_eq_getD_getElem?, Array.getElem?_eq_getElem h, Option.getD_some]

theorem ready_some (hm : masksOk ops ms = true) (hsz : listed.size = ops.size) : ∀ i, i < ops.size → listed.getD i true = false → ∃ k, k ∈ Region.ready .any ops listed := by
  intro i
  induction i using Nat.strongRecOn with
  | ind i ih =>
    intro hi hu
    have ho : ops[i]? = some ops[i] := Array.getElem?_eq_getElem hi
    by_cases hall : ∀ e ∈ ops[i].after, Region.binds .any e = true → listed.getD e.on false = true
    · exact ⟨i, mem_ready.2 ⟨hu, _, ho, hall⟩⟩
    · simp only [Classical.not_forall] at hall
      obtain ⟨e, he, hb, hn⟩ := hall
      have hlt := (masks_spec hm ho).1 e he hb
      refine ih e.on hlt (by omega) ?_
      rw [getD_both (by omega)]
      simpa using hn

theorem aids_ne (ios : List IOper) : ∀ (i j : Nat) (x y : IOper), (aidsOf ios).Nodup → i < j → ios[i]? = some x → ios[j]? = some y → x.op.usesAid = true → y.op.usesAid = true → x.aid ≠ y.aid := by
  induction ios with
  | nil => intro i j x y _ _ h; simp at h
  | cons z zs ih =>
    intro i j x y hnd hlt hx hy ux uy
    obtain ⟨j, rfl⟩ : ∃ k, j = k + 1 := ⟨j - 1, by omega⟩
    rw [List.getElem?_cons_succ] at hy
    cases i with
    | zero =>
      rw [List.getElem?_cons_zero, Option.some.injEq] at hx
      subst hx
      simp only [aidsOf, List.filter_cons, ux, if_true, List.map_cons, List.nodup_cons] at hnd
      intro e
      refine hnd.1 ?_
      rw [e]
      exact List.mem_map.2 ⟨y, List.mem_filter.2 ⟨List.mem_of_getElem? hy, uy⟩, rfl⟩
    | succ i =>
      rw [List.getElem?_cons_succ] at hx
      refine ih i j x y ?_ (by omega) hx hy ux uy
      simp only [aidsOf, List.filter_cons] at hnd
      split at hnd
      · rw [List.map_cons, List.nodup_cons] at hnd; exact hnd.2
      · exact hnd

theorem any_sound (htbl : TableOK P call) (hc : CallFoot md call) (hms : maskSlotsOk md ios = true) (hfe : ∀ o ∈ ios, fenced o = true) (hmk : masksOk ops ms = true) (hpr : pairsOk md ios ms = true)
    (hρ : ∀ t b, ρ t = some b → b < base) (hlen : ios.length = ops.size) (hop : ∀ (j : Nat) (io : IOper), ios[j]? = some io → ∃ o, ops[j]? = some o ∧ OperOK P n na ops io o) (hnd : (aidsOf ios).Nodup)
    (hcb : c.h.next ≤ base) (hfb : c.h.floor ≤ base) :
    ∀ (fuel : Nat) (listed : Array Bool) (Γ : Imm) (L : Locs) (s : St) (a : Act) (w : World), listed.size = ops.size → DownClosed ops listed → (rest ops.size listed).length ≤ fuel → Good c n Γ L s a.tmps w → base + na ≤ s.next →
      (∀ (j : Nat) (io : IOper), ios[j]? = some io → listed.getD j true = false → io.op.usesAid = true → Free L s.H (base + io.aid)) → MaskInv ρ ios s →
      stepOps call base ((rest ops.size listed).filterMap fun i => ios[i]?) s = some s' → (∀ Γ' L' a' w', Good c n Γ' L' s' a'.tmps w' → a'.defers = a.defers → Q .normal a' w') →
      wpAny P .any ops Q fuel listed a w := by
  intro fuel
  induction fuel with
  | zero =>
    intro listed Γ L s a w hsz hdc hle hg hbn hfree hmi hr hQ
    have hnil : rest ops.size listed = [] := List.length_eq_zero_iff.1 (by omega)
    rw [hnil] at hr
    simp only [List.filterMap_nil, stepOps, Option.some.injEq] at hr
    subst hr
    refine ⟨?_, hQ Γ L a w hg rfl⟩
    rw [List.eq_nil_iff_forall_not_mem]
    intro k hk
    obtain ⟨hu, o, ho, _⟩ := mem_ready.1 hk
    have hlt : k < ops.size := (Array.getElem?_eq_some_iff.1 ho).1
    have : k ∈ rest ops.size listed := by
      unfold rest
      rw [List.mem_filter, List.mem_range]
      exact ⟨hlt, by rw [hu]; rfl⟩
    rw [hnil] at this
    cases this
  | succ fuel ih =>
    intro listed Γ L s a w hsz hdc hle hg hbn hfree hmi hr hQ
    refine ⟨fun hnr => ?_, fun i hi => ?_⟩
    · have hnil : rest ops.size listed = [] := by
        rw [List.eq_nil_iff_forall_not_mem]
        intro k hk
        unfold rest at hk
        rw [List.mem_filter, List.mem_range] at hk
        obtain ⟨k', hk'⟩ := ready_some hmk hsz k hk.1 (by simpa using hk.2)
        rw [hnr] at hk'
        cases hk'
      rw [hnil] at hr
      simp only [List.filterMap_nil, stepOps, Option.some.injEq] at hr
      subst hr
      exact hQ Γ L a w hg rfl
    · obtain ⟨hu, o, ho, hall⟩ := mem_ready.1 hi
      have hlt : i < ops.size := (Array.getElem?_eq_some_iff.1 ho).1
      obtain ⟨A, B, hr1, hr2, hA⟩ := rest_split hsz hlt hu
      have hio : ios[i]? = some (ios[i]'(by omega)) := List.getElem?_eq_getElem _
      generalize ios[i]'(by omega) = io at hio
      have hmem : io ∈ ios := List.mem_of_getElem? hio
      rw [hr1, List.filterMap_append, List.filterMap_cons, hio] at hr
      simp only [] at hr
      have hap : ∀ x ∈ A.filterMap (fun i => ios[i]?), x ∈ ios ∧ ApartF ρ base (foot md x) (foot md io) := by
        intro x hx
        obtain ⟨j, hj, hjx⟩ := List.mem_filterMap.1 hx
        refine ⟨List.mem_of_getElem? hjx, ?_⟩
        obtain ⟨hji, hju⟩ := hA j hj
        simp only [pairsOk, List.all_eq_true, List.mem_range] at hpr
        have hp := hpr i (by omega) j hji
        rw [hjx, hio] at hp
        simp only [Bool.or_eq_true] at hp
        rcases hp with hp | hp
        · have := closed_listed hmk hsz hdc i o ho hall j hji hp
          rw [← getD_both (by omega), hju] at this
          cases this
        · exact Foot.apart_spec hρ hp
      obtain ⟨s1, hs1, hs2⟩ := bubble (o := io) hc hms hfe _ _ s hap hmem hmi hr
      obtain ⟨o2, ho2, hoo⟩ := hop i io hio
      have hfl : s.floor = c.h.floor := hg.since.floor
      refine wpOp_mono ?_ (step_sound (Q := Q) htbl hg hcb (by rw [hfl]; exact hfb) hbn hoo (fun hua => hfree i io hio hu hua) hs1 ho2)
      rintro a1 w1 ⟨Γ1, L1, hg1, hd1, hn1, hf1⟩
      have hsz' : (listed.setIfInBounds i true).size = ops.size := by simpa using hsz
      refine ih (listed.setIfInBounds i true) Γ1 L1 s1 a1 w1 hsz' ?_ ?_ hg1 (Nat.le_trans hbn hn1) ?_ (hmi.step hc hms hmem (hfe io hmem) hs1) ?_ (fun Γ' L' a' w' hg' hd' => hQ Γ' L' a' w' hg' (hd'.trans hd1))
      · intro j oj hoj hl e he hb
        by_cases hji : j = i
        · subst hji
          rw [ho] at hoj
          injection hoj with hoj
          subst hoj
          exact getD_set_true (hall e he hb)
        · rw [getD_set_ne true (Ne.symm hji)] at hl
          exact getD_set_true (hdc j oj hoj hl e he hb)
      · rw [hr2]
        rw [hr1] at hle
        simp only [List.length_append, List.length_cons] at hle ⊢
        omega
      · intro j ioj hioj hju hua
        have hji : j ≠ i := by
          rintro rfl
          rw [getD_set_self (by omega)] at hju
          cases hju
        rw [getD_set_ne true (Ne.symm hji)] at hju
        have hfr := hfree j ioj hioj hju hua
        obtain ⟨oj, hoj, hooj⟩ := hop j ioj hioj
        have haj := hooj.aid
        rw [if_pos hua] at haj
        refine hf1 _ (by omega) (fun e => ?_) hfr
        have e' : ioj.aid = io.aid := by omega
        have hai := hoo.aid
        split at hai
        · rename_i hui
          rcases Nat.lt_or_ge j i with h | h
          · exact aids_ne ios j i ioj io hnd h hioj hio hua hui e'
          · exact aids_ne ios i j io ioj hnd (by omega) hio hioj hui hua e'.symm
        · omega
      · rw [hr2, List.filterMap_append]
        exact hs2

/-- THE REGIONS OF OPEN ORDER. -/
theorem draw_sound (hmx : P.follows .mixedOrders = true) (md : Nat → Nat) (n : Nat) : DrawOK P (CallFoot md) n (drawOK md n) := by
  intro call c na id ios ops Γ L s s' a w hc htbl hdr hok hfl hg hr
  obtain ⟨h1, h2, h3⟩ := okRegion_spec hok
  obtain ⟨hg1, hfree⟩ := hg.skip na
  have hnx : c.h.next ≤ s.next := hg.since.next
  simp only [drawOK, Bool.and_eq_true, List.all_eq_true] at hdr
  obtain ⟨⟨⟨d1, d2⟩, d3⟩, d4⟩ := hdr
  refine wp_region_any hmx ?_
  have hrest : rest ops.size (Array.replicate ops.size false) = List.range ios.length := by
    unfold rest
    rw [h1, List.filter_eq_self]
    intro i hi
    have := List.mem_range.1 hi
    simp [this]
  refine any_sound (ρ := fun t => refId (s.E t)) (na := na) (base := s.next) htbl hc d2 d1 d3 d4 (fun t b hb => ?_) h1 h2 h3 hnx (Nat.le_trans hfl hnx) ops.size _ Γ L _ a _ (by simp) (fun j o ho hl => ?_) (by rw [hrest, List.length_range, h1]; exact Nat.le_refl _) (hg1.drawn _) (Nat.le_refl _)
    (fun j io hj _ hua => ?_) (fun o _ t _ => rfl) (by rw [hrest, sel_all]; exact hr) (fun Γ' L' a' w' hg' hd' => ⟨rfl, Γ', L', hg', hd'⟩)
  · -- what the slots name is older than the region
    cases he : s.E t <;> simp only [he, refId, reduceCtorEq] at hb
    rename_i v
    cases v <;> simp only [reduceCtorEq, Option.some.injEq] at hb
    subst hb
    rename_i b off
    obtain ⟨x, _, hx⟩ := hg.f.val t _ he
    rcases Nat.lt_or_ge b s.next with h | h
    · exact h
    · exfalso
      have := (hg.f.heap.fresh b h).2.1
      cases hx
      simp_all
  · have hlt : j < ops.size := (Array.getElem?_eq_some_iff.1 ho).1
    simp [hlt] at hl
  · have : io.aid < na := by
      obtain ⟨o, _, hoo⟩ := h2 j io hj
      have := hoo.aid
      rwa [if_pos hua] at this
    exact hfree _ this

end
end Go.Abs
