/-
  MEMORY THAT IS WRITTEN: new blocks, stores, slices that grow, maps.
-/
import Derived.Test.YtagmcgbbgjkdbaaAbs8
set_option linter.all false
namespace Go.Abs
open Go

def Free (L : Locs) (H : Nat → Option Blk) (id : Nat) : Prop := H id = none ∧ L.blk id = none ∧ ∀ n, L.perm id n = none

section
variable {P : Program} {B n : Nat} {Γ Γ' : Imm} {L L' : Locs} {s : St} {a : Act} {w w' : World} {H H' : Nat → Option Blk} {next next' base floor : Nat} {c : Ctx}

theorem real_congr {b : Nat} (hH : H' b = H b) (hL : L'.blk b = L.blk b) (hp : ∀ k, L'.perm b k = L.perm b k) : real L' H' b = real L H b := by
  simp only [real, hH, hL, hp]

theorem Since.away (h : Since Γ L ⟨H, base, floor⟩ w Γ' L' ⟨H', next', floor⟩ w') {r : Nat} (hr : r < w.heap.size) (hn : ∀ b, real L H b ≠ some r) : w'.heap[r]? = w.heap[r]? ∧ Γ' r = Γ r ∧ ∀ b, real L' H' b ≠ some r := by
  obtain ⟨h1, h2⟩ := h.block r hr fun b _ => hn b
  refine ⟨h1, h2, fun b hb => ?_⟩
  by_cases hf : b < floor
  · obtain ⟨g1, g2, g3⟩ := h.low b hf
    rw [real_congr g3 g1 g2] at hb
    exact hn b hb
  · rcases h.own b r (by show floor ≤ b; omega) hb with ⟨b', _, h4⟩ | h4
    · exact hn b' h4
    · omega

theorem Good.heap {tmps : Array Value} (hg : Good c n Γ L s tmps w) (hi : HInv Γ' L' H' next' w') (hs : Since Γ L ⟨s.H, base, s.floor⟩ w Γ' L' ⟨H', next', s.floor⟩ w') (hb : c.h.next ≤ base) :
    Good c n Γ' L' { s with H := H', next := next' } tmps w' where
  f := hg.f.frame hs.imm hs.locs hi fun t cs r ht hr => by
    obtain ⟨r', arr, el, h1, h2, h3, h4, h5, h6⟩ := hg.f.var t cs ht
    rw [hr] at h1; injection h1 with h1; injection h1 with h1; injection h1 with h1; injection h1 with h1
    subst h1
    obtain ⟨g1, g2, g3⟩ := hs.away (heap_lt h3) h6
    exact ⟨g1, by rw [g2]; exact h4, g3⟩
  since := by
    have h1 : Since c.Γ c.L c.h c.w Γ L ⟨s.H, base, s.floor⟩ w :=
      { imm := hg.since.imm, locs := hg.since.locs, os := hg.since.os, tape := hg.since.tape, output := hg.since.output, size := hg.since.size, block := hg.since.block, low := hg.since.low, dead := hg.since.dead, own := hg.since.own, floor := hg.since.floor, next := hb }
    exact h1.trans hs

theorem upd_self {α : Type} {f : Nat → α} {i : Nat} {x : α} : upd f i x i = x := by simp [upd]
theorem upd_other {α : Type} {f : Nat → α} {i j : Nat} {x : α} (h : j ≠ i) : upd f i x j = f j := by simp [upd, h]

/-- A new abstract block, over a block of the world that is pushed. -/
theorem new_blk (hi : HInv Γ L H next w) {id : Nat} (hfree : Free L H id) (hid : id < next) (hfl : floor ≤ id) (hbase : base ≤ id) {o : Obj} {b : Blk}
    (hob : (∃ cs xs t el, b = .cells cs ∧ o = .cells (xs ++ t).toArray el (0, 0) ∧ Reps Γ L cs xs) ∨ (b = .map [] ∧ ∃ clk, o = .map #[] clk)) :
    HInv Γ { L with blk := upd L.blk id (some w.heap.size) } (upd H id (some b)) next (pushBlk w o) ∧
    Since Γ L ⟨H, base, floor⟩ w Γ { L with blk := upd L.blk id (some w.heap.size) } ⟨upd H id (some b), next, floor⟩ (pushBlk w o) := by
  obtain ⟨f1, f2, f3⟩ := hfree
  have hL : L.le { L with blk := upd L.blk id (some w.heap.size) } := ⟨fun b' r hb => by
    have : b' ≠ id := by intro e; subst e; rw [f2] at hb; cases hb
    simp [upd, this, hb], fun _ _ _ h => h⟩
  have hreal : ∀ b', b' ≠ id → real { L with blk := upd L.blk id (some w.heap.size) } (upd H id (some b)) b' = real L H b' := fun b' hne =>
    real_congr (upd_other hne) (upd_other hne) fun _ => rfl
  have hrid : real { L with blk := upd L.blk id (some w.heap.size) } (upd H id (some b)) id = some w.heap.size := by
    rcases hob with ⟨cs, xs, t, el, rfl, _⟩ | ⟨rfl, _⟩ <;> simp [real, upd]
  have hΓn : Γ w.heap.size = none := by
    cases h : Γ w.heap.size with
    | none => rfl
    | some gs => exact absurd (hi.imm_lt h) (Nat.lt_irrefl _)
  constructor
  · refine ⟨fun r gs h => ?_, fun b' cs hb => ?_, fun b' sz k hb => ?_, fun b' es hb => ?_, fun b1 b2 r h1 h2 => ?_, fun b' hb => ?_⟩
    · obtain ⟨arr, e, fz, hw, ht⟩ := hi.imm r gs h
      exact ⟨arr, e, fz, by rw [pushBlk_old (heap_lt hw)]; exact hw, ht⟩
    · by_cases hne : b' = id
      · subst hne
        rw [upd_self] at hb
        injection hb with hb
        rcases hob with ⟨cs', xs, t, el, rfl, rfl, hr⟩ | ⟨rfl, _⟩
        · injection hb with hb
          subst hb
          refine ⟨w.heap.size, _, el, t, upd_self, pushBlk_new _, hΓn, ?_, ?_⟩
          · simp [hr.1]
          · simp only [List.take_append_of_le_length (Nat.le_of_eq hr.1)]
            rw [List.take_of_length_le (Nat.le_of_eq hr.1.symm)]
            exact hr.mono (Imm.le_refl _) hL
        · cases hb
      · rw [upd_other hne] at hb
        obtain ⟨r, arr, el, t, e, hw, hg, ht, hr⟩ := hi.cells b' cs hb
        exact ⟨r, arr, el, t, by simpa [upd, hne] using e, by rw [pushBlk_old (heap_lt hw)]; exact hw, hg, ht, hr.mono (Imm.le_refl _) hL⟩
    · have hne : b' ≠ id := by
        intro e; subst e
        rw [upd_self] at hb
        rcases hob with ⟨cs', xs, t, el, rfl, _⟩ | ⟨rfl, _⟩ <;> cases hb
      rw [upd_other hne] at hb
      obtain ⟨pl, e, hj, hn, hp⟩ := hi.perm b' sz k hb
      refine ⟨pl, e, hj, hn, fun r cap hpl => ?_⟩
      obtain ⟨arr, el, gs, t, hw, h⟩ := hp r cap hpl
      exact ⟨arr, el, gs, t, by rw [pushBlk_old (heap_lt hw)]; exact hw, h⟩
    · by_cases hne : b' = id
      · subst hne
        rw [upd_self] at hb
        injection hb with hb
        rcases hob with ⟨cs', xs, t, el, rfl, _⟩ | ⟨rfl, clk, rfl⟩
        · cases hb
        · injection hb with hb
          subst hb
          exact ⟨w.heap.size, #[], clk, upd_self, pushBlk_new _, hΓn, .nil, .nil⟩
      · rw [upd_other hne] at hb
        obtain ⟨r, ms, clk, e, hw, hg, h3, h4⟩ := hi.map b' es hb
        exact ⟨r, ms, clk, by simpa [upd, hne] using e, by rw [pushBlk_old (heap_lt hw)]; exact hw, hg, h3.mono (Imm.le_refl _) hL, h4.mono (Imm.le_refl _) hL⟩
    · by_cases e1 : b1 = id
      · by_cases e2 : b2 = id
        · rw [e1, e2]
        · exfalso
          rw [hreal b2 e2] at h2
          rw [e1, hrid] at h1
          injection h1 with h1
          have := hi.real_lt h2
          omega
      · rw [hreal b1 e1] at h1
        by_cases e2 : b2 = id
        · exfalso
          rw [e2, hrid] at h2
          injection h2 with h2
          have := hi.real_lt h1
          omega
        · rw [hreal b2 e2] at h2
          exact hi.inj b1 b2 r h1 h2
    · have hne : b' ≠ id := by omega
      obtain ⟨g1, g2, g3⟩ := hi.fresh b' hb
      exact ⟨by rw [upd_other hne]; exact g1, by simp [upd, hne, g2], g3⟩
  · refine ⟨Imm.le_refl _, hL, rfl, rfl, rfl, by simp, fun r hr _ => ⟨pushBlk_old hr, rfl⟩, fun b' hb => ?_, fun b' hb hn => ?_, fun b' r hb hre => ?_, rfl, ?_⟩
    · have hne : b' ≠ id := by have : b' < floor := hb; omega
      exact ⟨by simp [upd, hne], fun _ => rfl, upd_other hne⟩
    · have hne : b' ≠ id := by have : b' < base := hb; omega
      exact ⟨(upd_other hne).trans hn, by simp [upd, hne], fun _ => rfl⟩
    · by_cases hne : b' = id
      · subst hne
        rw [hrid] at hre
        injection hre with hre
        exact .inr (by omega)
      · rw [hreal b' hne] at hre
        exact .inl ⟨b', hb, hre⟩
    · show base ≤ next; omega

/-- A block is written. -/
theorem write_blk (hi : HInv Γ L H next w) {id r : Nat} (hr : real L H id = some r) (hfl : floor ≤ id) (hbn : base ≤ next) {o : Obj} {b b' : Blk} (hb : H id = some b)
    (hob : (∃ cs cs' xs t el, b = .cells cs ∧ b' = .cells cs' ∧ o = .cells (xs ++ t).toArray el (0, 0) ∧ Reps Γ L cs' xs) ∨
      (∃ es es' ms clk, b = .map es ∧ b' = .map es' ∧ o = .map ms clk ∧ Reps Γ L (es'.map (·.1)) (ms.toList.map (·.key)) ∧ Reps Γ L (es'.map (·.2)) (ms.toList.map (·.val)))) :
    HInv Γ L (upd H id (some b')) next (setBlk w r o) ∧ Since Γ L ⟨H, base, floor⟩ w Γ L ⟨upd H id (some b'), next, floor⟩ (setBlk w r o) := by
  have hrlt := hi.real_lt hr
  have hblk : L.blk id = some r := by
    rcases hob with ⟨cs, cs', xs, t, el, rfl, _⟩ | ⟨es, es', ms, clk, rfl, _⟩ <;> simpa [real, hb] using hr
  have hreal : ∀ b1, real L (upd H id (some b')) b1 = real L H b1 := by
    intro b1
    by_cases hne : b1 = id
    · subst hne
      rcases hob with ⟨cs, cs', xs, t, el, rfl, rfl, _⟩ | ⟨es, es', ms, clk, rfl, rfl, _⟩ <;> simp [real, hb, upd]
    · exact real_congr (upd_other hne) rfl fun _ => rfl
  have hΓ : Γ r = none := by
    rcases hob with ⟨cs, cs', xs, t, el, rfl, _⟩ | ⟨es, es', ms, clk, rfl, _⟩
    · obtain ⟨r', _, _, _, e, _, hg, _⟩ := hi.cells id cs hb
      rw [hblk] at e; injection e with e; subst e; exact hg
    · obtain ⟨r', _, _, e, _, hg, _⟩ := hi.map id es hb
      rw [hblk] at e; injection e with e; subst e; exact hg
  have hother : ∀ b1 r1, b1 ≠ id → real L H b1 = some r1 → r1 ≠ r := fun b1 r1 hne h1 e => hne (hi.inj b1 id r (by rw [← e]; exact h1) hr)
  constructor
  · refine ⟨fun r' gs h => ?_, fun b1 cs1 hb1 => ?_, fun b1 sz k hb1 => ?_, fun b1 es1 hb1 => ?_, fun b1 b2 r1 h1 h2 => ?_, fun b1 hb1 => ?_⟩
    · have hne : r' ≠ r := by intro e; subst e; rw [hΓ] at h; cases h
      obtain ⟨arr, e, fz, hw, ht⟩ := hi.imm r' gs h
      exact ⟨arr, e, fz, by rw [setBlk_other hne]; exact hw, ht⟩
    · by_cases hne : b1 = id
      · subst hne
        rw [upd_self] at hb1
        injection hb1 with hb1
        rcases hob with ⟨cs, cs', xs, t, el, rfl, rfl, rfl, hr'⟩ | ⟨es, es', ms, clk, rfl, rfl, _⟩
        · injection hb1 with hb1
          subst hb1
          refine ⟨r, _, el, t, hblk, setBlk_same hrlt, hΓ, by simp [hr'.1], ?_⟩
          simp only [List.take_append_of_le_length (Nat.le_of_eq hr'.1)]
          rw [List.take_of_length_le (Nat.le_of_eq hr'.1.symm)]
          exact hr'
        · cases hb1
      · rw [upd_other hne] at hb1
        obtain ⟨r1, arr, el, t, e, hw, hg, ht, hr1⟩ := hi.cells b1 cs1 hb1
        exact ⟨r1, arr, el, t, e, by rw [setBlk_other (hother b1 r1 hne (by simp [real, hb1, e]))]; exact hw, hg, ht, hr1⟩
    · have hne : b1 ≠ id := by
        intro e; subst e
        rw [upd_self] at hb1
        rcases hob with ⟨cs, cs', xs, t, el, rfl, rfl, _⟩ | ⟨es, es', ms, clk, rfl, rfl, _⟩ <;> cases hb1
      rw [upd_other hne] at hb1
      obtain ⟨pl, e, hj, hn, hp⟩ := hi.perm b1 sz k hb1
      refine ⟨pl, e, hj, hn, fun r1 cap hpl => ?_⟩
      obtain ⟨arr, el, gs, t, hw, h⟩ := hp r1 cap hpl
      exact ⟨arr, el, gs, t, by rw [setBlk_other (hother b1 r1 hne (by simp [real, hb1, e, hpl]))]; exact hw, h⟩
    · by_cases hne : b1 = id
      · subst hne
        rw [upd_self] at hb1
        injection hb1 with hb1
        rcases hob with ⟨cs, cs', xs, t, el, rfl, rfl, _⟩ | ⟨es, es', ms, clk, rfl, rfl, rfl, h3, h4⟩
        · cases hb1
        · injection hb1 with hb1
          subst hb1
          exact ⟨r, ms, clk, hblk, setBlk_same hrlt, hΓ, h3, h4⟩
      · rw [upd_other hne] at hb1
        obtain ⟨r1, ms, clk, e, hw, hg, h3, h4⟩ := hi.map b1 es1 hb1
        exact ⟨r1, ms, clk, e, by rw [setBlk_other (hother b1 r1 hne (by simp [real, hb1, e]))]; exact hw, hg, h3, h4⟩
    · rw [hreal] at h1 h2
      exact hi.inj b1 b2 r1 h1 h2
    · have hne : b1 ≠ id := by
        intro e; subst e
        rw [(hi.fresh _ hb1).1] at hb; cases hb
      obtain ⟨g1, g2, g3⟩ := hi.fresh b1 hb1
      exact ⟨by rw [upd_other hne]; exact g1, g2, g3⟩
  · refine ⟨Imm.le_refl _, Locs.le_refl _, rfl, rfl, rfl, by simp, fun r1 hr1 hn => ⟨setBlk_other (fun e => hn id hfl (by rw [e]; exact hr)), rfl⟩, fun b1 hb1 => ⟨rfl, fun _ => rfl, upd_other (by have : b1 < floor := hb1; omega)⟩, fun b1 hb1 hn => ?_, fun b1 r1 hb1 hre => .inl ⟨b1, hb1, by rw [← hreal b1]; exact hre⟩, rfl, hbn⟩
    have hne : b1 ≠ id := by
      intro e; subst e
      have : H b1 = none := hn
      rw [hb] at this; cases this
    exact ⟨(upd_other hne).trans hn, rfl, fun _ => rfl⟩

/-- The room of a slice that grows gets a new place: a block of the world that is written behind what stays in it, or a new one. -/
theorem grow_perm (hi : HInv Γ L H next w) {id sz k k' : Nat} {q : Option (Nat × Nat)} (hfl : floor ≤ id) (hid : id < next) (hbn : base ≤ next)
    (hold : (Free L H id ∧ base ≤ id ∧ k = 0) ∨ (H id = some (.perm sz k) ∧ k < k' ∧ ∀ j, k < j → L.perm id j = none))
    (hkk : L.perm id k' = none)
    (hw' : w'.os = w.os ∧ w'.tape = w.tape ∧ w'.output = w.output ∧ w.heap.size ≤ w'.heap.size)
    (hq0 : q = none → k' = 0 ∧ Γ' = Γ ∧ w'.heap = w.heap)
    (hq : ∀ r cap, q = some (r, cap) → (∃ arr el gs t, w'.heap[r]? = some (.cells arr el (0, 0)) ∧ Γ' r = some gs ∧ arr.toList = gs ++ t ∧ gs.length = k' * sz ∧ arr.size = cap * sz) ∧
      (∀ r1, r1 ≠ r → r1 < w.heap.size → w'.heap[r1]? = w.heap[r1]?) ∧ (∀ r1, r1 ≠ r → Γ' r1 = Γ r1) ∧ (w.heap.size ≤ r ∨ real L H id = some r) ∧ (∀ gs, Γ r = some gs → ∃ t, Γ' r = some (gs ++ t))) :
    HInv Γ' { L with perm := fun b j => if b = id ∧ j = k' then some q else L.perm b j } (upd H id (some (.perm sz k'))) next w' ∧
    Since Γ L ⟨H, base, floor⟩ w Γ' { L with perm := fun b j => if b = id ∧ j = k' then some q else L.perm b j } ⟨upd H id (some (.perm sz k')), next, floor⟩ w' := by
  have hΓle : Γ.le Γ' := by
    intro r gs hg
    cases hqq : q with
    | none => obtain ⟨_, e, _⟩ := hq0 hqq; subst e; exact ⟨[], by simpa using hg⟩
    | some p =>
      obtain ⟨r', cap⟩ := p
      obtain ⟨_, _, h3, _, h5⟩ := hq r' cap hqq
      by_cases e : r = r'
      · subst e; exact h5 gs hg
      · exact ⟨[], by rw [h3 r e]; simpa using hg⟩
  have hL : L.le { L with perm := fun b j => if b = id ∧ j = k' then some q else L.perm b j } := ⟨fun _ _ h => h, fun b j p hp => by
    have : ¬ (b = id ∧ j = k') := by rintro ⟨rfl, rfl⟩; rw [hkk] at hp; cases hp
    simp [this, hp]⟩
  have hreal : ∀ b1, b1 ≠ id → real { L with perm := fun b j => if b = id ∧ j = k' then some q else L.perm b j } (upd H id (some (.perm sz k'))) b1 = real L H b1 := fun b1 hne =>
    real_congr (upd_other hne) rfl fun j => by simp [hne]
  have hrid : real { L with perm := fun b j => if b = id ∧ j = k' then some q else L.perm b j } (upd H id (some (.perm sz k'))) id = q.map (·.1) := by
    simp only [real, upd_self, true_and, if_true]
    cases q <;> rfl
  have hold' : ∀ b1 r1, b1 ≠ id → real L H b1 = some r1 → w'.heap[r1]? = w.heap[r1]? ∧ Γ' r1 = Γ r1 := by
    intro b1 r1 hne h1
    have hlt := hi.real_lt h1
    cases hqq : q with
    | none => obtain ⟨_, e, e'⟩ := hq0 hqq; subst e; exact ⟨by rw [e'], rfl⟩
    | some p =>
      obtain ⟨r', cap⟩ := p
      obtain ⟨_, h2, h3, h4, _⟩ := hq r' cap hqq
      have hne' : r1 ≠ r' := by
        intro e; subst e
        rcases h4 with h4 | h4
        · omega
        · exact hne (hi.inj b1 id r1 h1 h4)
      exact ⟨h2 r1 hne' hlt, h3 r1 hne'⟩
  constructor
  · refine ⟨fun r gs hg => ?_, fun b1 cs1 hb1 => ?_, fun b1 sz1 j hb1 => ?_, fun b1 es1 hb1 => ?_, fun b1 b2 r1 h1 h2 => ?_, fun b1 hb1 => ?_⟩
    · cases hqq : q with
      | none =>
        obtain ⟨_, e, e'⟩ := hq0 hqq
        subst e
        obtain ⟨arr, el, fz, hw, ht⟩ := hi.imm r gs hg
        exact ⟨arr, el, fz, by rw [e']; exact hw, ht⟩
      | some p =>
        obtain ⟨r', cap⟩ := p
        obtain ⟨⟨arr, el, gs', t, h1, h1', ht, _⟩, h2, h3, _, _⟩ := hq r' cap hqq
        by_cases e : r = r'
        · subst e
          rw [h1'] at hg
          injection hg with hg
          subst hg
          exact ⟨arr, el, _, h1, t, ht⟩
        · rw [h3 r e] at hg
          obtain ⟨arr, el, fz, hw, ht⟩ := hi.imm r gs hg
          exact ⟨arr, el, fz, by rw [h2 r e (heap_lt hw)]; exact hw, ht⟩
    · have hne : b1 ≠ id := by
        intro e; subst e; rw [upd_self] at hb1; cases hb1
      rw [upd_other hne] at hb1
      obtain ⟨r1, arr, el, t, e, hw, hg, ht, hr1⟩ := hi.cells b1 cs1 hb1
      obtain ⟨g1, g2⟩ := hold' b1 r1 hne (by simp [real, hb1, e])
      exact ⟨r1, arr, el, t, e, by rw [g1]; exact hw, by rw [g2]; exact hg, ht, hr1.mono hΓle hL⟩
    · by_cases hne : b1 = id
      · subst hne
        rw [upd_self] at hb1
        injection hb1 with hb1
        injection hb1 with e1 e2
        subst e1; subst e2
        refine ⟨q, by simp, fun j hj => ?_, fun e => (hq0 e).1, fun r cap e => (hq r cap e).1⟩
        have hjk : j ≠ k' := by omega
        simp only [true_and, if_neg hjk]
        rcases hold with ⟨h, _⟩ | ⟨_, h1, h2⟩
        · exact h.2.2 j
        · exact h2 j (by omega)
      · rw [upd_other hne] at hb1
        obtain ⟨pl, e, hj, hn, hp⟩ := hi.perm b1 sz1 j hb1
        refine ⟨pl, by simp [hne, e], fun j hjj => by simp [hne, hj j hjj], hn, fun r1 cap hpl => ?_⟩
        obtain ⟨arr, el, gs, t, hw, hg, h⟩ := hp r1 cap hpl
        obtain ⟨g1, g2⟩ := hold' b1 r1 hne (by simp [real, hb1, e, hpl])
        exact ⟨arr, el, gs, t, by rw [g1]; exact hw, by rw [g2]; exact hg, h⟩
    · have hne : b1 ≠ id := by
        intro e; subst e; rw [upd_self] at hb1; cases hb1
      rw [upd_other hne] at hb1
      obtain ⟨r1, ms, clk, e, hw, hg, h3, h4⟩ := hi.map b1 es1 hb1
      obtain ⟨g1, g2⟩ := hold' b1 r1 hne (by simp [real, hb1, e])
      exact ⟨r1, ms, clk, e, by rw [g1]; exact hw, by rw [g2]; exact hg, h3.mono hΓle hL, h4.mono hΓle hL⟩
    · have key : ∀ b1 r1, b1 ≠ id → real L H b1 = some r1 → q.map (·.1) = some r1 → False := by
        intro b1 r1 hne h1 h2
        cases hqq : q with
        | none => rw [hqq] at h2; cases h2
        | some p =>
          obtain ⟨r', cap⟩ := p
          rw [hqq] at h2
          simp only [Option.map_some, Option.some.injEq] at h2
          subst h2
          obtain ⟨_, _, _, h4, _⟩ := hq _ cap hqq
          rcases h4 with h4 | h4
          · have := hi.real_lt h1; omega
          · exact hne (hi.inj b1 id _ h1 h4)
      by_cases e1 : b1 = id
      · by_cases e2 : b2 = id
        · rw [e1, e2]
        · exfalso
          rw [hreal b2 e2] at h2
          rw [e1, hrid] at h1
          exact key b2 r1 e2 h2 h1
      · rw [hreal b1 e1] at h1
        by_cases e2 : b2 = id
        · exfalso
          rw [e2, hrid] at h2
          exact key b1 r1 e1 h1 h2
        · rw [hreal b2 e2] at h2
          exact hi.inj b1 b2 r1 h1 h2
    · have hne : b1 ≠ id := by omega
      obtain ⟨g1, g2, g3⟩ := hi.fresh b1 hb1
      exact ⟨by rw [upd_other hne]; exact g1, g2, fun j => by simp [hne, g3]⟩
  · refine ⟨hΓle, hL, hw'.1, hw'.2.1, hw'.2.2.1, hw'.2.2.2, fun r1 hr1 hn => ?_, fun b1 hb1 => ?_, fun b1 hb1 hn => ?_, fun b1 r1 hb1 hre => ?_, rfl, hbn⟩
    · cases hqq : q with
      | none => obtain ⟨_, e, e'⟩ := hq0 hqq; subst e; exact ⟨by rw [e'], rfl⟩
      | some p =>
        obtain ⟨r', cap⟩ := p
        obtain ⟨_, h2, h3, h4, _⟩ := hq r' cap hqq
        have hne' : r1 ≠ r' := by
          intro e; subst e
          rcases h4 with h4 | h4
          · omega
          · exact hn id hfl h4
        exact ⟨h2 r1 hne' hr1, h3 r1 hne'⟩
    · have hne : b1 ≠ id := by have : b1 < floor := hb1; omega
      exact ⟨rfl, fun j => by simp [hne], upd_other hne⟩
    · have hne : b1 ≠ id := by
        intro e; subst e
        have hb1' : b1 < base := hb1
        have hn' : H b1 = none := hn
        rcases hold with ⟨_, h, _⟩ | ⟨h, _⟩
        · omega
        · rw [hn'] at h; cases h
      exact ⟨(upd_other hne).trans hn, rfl, fun j => by simp [hne]⟩
    · by_cases hne : b1 = id
      · subst hne
        rw [hrid] at hre
        cases hqq : q with
        | none => rw [hqq] at hre; cases hre
        | some p =>
          obtain ⟨r', cap⟩ := p
          rw [hqq] at hre
          simp only [Option.map_some, Option.some.injEq] at hre
          subst hre
          obtain ⟨_, _, _, h4, _⟩ := hq _ cap hqq
          rcases h4 with h4 | h4
          · exact .inr h4
          · exact .inl ⟨b1, hb1, h4⟩
      · rw [hreal b1 hne] at hre
        exact .inl ⟨b1, hb1, hre⟩

end
end Go.Abs
