/-
  WHAT HAPPENS TO A FRAME AND TO MEMORY: new blocks, writes, a slot that is filled.
-/
import Derived.Test.YtagmcgbbgjkdbaaAbs7
set_option linter.all false
namespace Go.Abs
open Go

def St.hs (s : St) : HS := ⟨s.H, s.next, s.floor⟩

/-- A block of the heap is replaced. -/
def setBlk (w : World) (r : Nat) (o : Obj) : World := { w with heap := w.heap.setIfInBounds r o }
def pushBlk (w : World) (o : Obj) : World := { w with heap := w.heap.push o }

section
variable {P : Program} {B n : Nat} {Γ Γ' : Imm} {L L' : Locs} {s : St} {a : Act} {w w' : World} {H : Nat → Option Blk} {next : Nat}

theorem heap_lt {r : Nat} {o : Obj} (h : w.heap[r]? = some o) : r < w.heap.size := (Array.getElem?_eq_some_iff.1 h).1

@[simp] theorem setBlk_size (r : Nat) (o : Obj) : (setBlk w r o).heap.size = w.heap.size := by simp [setBlk]
theorem setBlk_same {r : Nat} {o : Obj} (h : r < w.heap.size) : (setBlk w r o).heap[r]? = some o := by simp [setBlk, h]
theorem setBlk_other {r r' : Nat} {o : Obj} (h : r' ≠ r) : (setBlk w r o).heap[r']? = w.heap[r']? := by simp [setBlk, Ne.symm h]
@[simp] theorem pushBlk_size (o : Obj) : (pushBlk w o).heap.size = w.heap.size + 1 := by simp [pushBlk]
theorem pushBlk_new (o : Obj) : (pushBlk w o).heap[w.heap.size]? = some o := by
  show (w.heap.push o)[w.heap.size]? = some o
  rw [Array.getElem?_push, if_pos rfl]
theorem pushBlk_old {r : Nat} {o : Obj} (h : r < w.heap.size) : (pushBlk w o).heap[r]? = w.heap[r]? := by
  simp only [pushBlk, Array.getElem?_push]
  rw [if_neg (by omega)]

theorem HInv.real_lt (h : HInv Γ L H next w) {b r : Nat} (hr : real L H b = some r) : r < w.heap.size := by
  unfold real at hr
  split at hr
  · rename_i cs hb
    obtain ⟨r', arr, el, t, e, hw, _⟩ := h.cells _ _ hb
    rw [hr] at e; injection e with e; subst e
    exact heap_lt hw
  · rename_i es hb
    obtain ⟨r', ms, clk, e, hw, _⟩ := h.map _ _ hb
    rw [hr] at e; injection e with e; subst e
    exact heap_lt hw
  · rename_i sz k hb
    obtain ⟨pl, e, _, _, hp⟩ := h.perm _ _ _ hb
    rw [e] at hr
    cases pl with
    | none => cases hr
    | some q =>
      obtain ⟨r', cap⟩ := q
      simp only [Option.some.injEq] at hr
      subst hr
      obtain ⟨arr, el, gs, t, hw, _⟩ := hp _ _ rfl
      exact heap_lt hw
  · cases hr

theorem HInv.imm_lt (h : HInv Γ L H next w) {r : Nat} {gs : List Value} (hg : Γ r = some gs) : r < w.heap.size := by
  obtain ⟨arr, el, fz, hw, _⟩ := h.imm _ _ hg
  exact heap_lt hw

/-- Memory that a heap does not speak of may change. -/
theorem HInv.frame (h : HInv Γ L H next w) (hΓ : Γ.le Γ') (hgood : ∀ r gs, Γ' r = some gs → ∃ arr el fz, w'.heap[r]? = some (.cells arr el fz) ∧ ∃ t, arr.toList = gs ++ t)
    (hsame : ∀ b r, real L H b = some r → w'.heap[r]? = w.heap[r]? ∧ Γ' r = Γ r) : HInv Γ' L H next w' where
  imm := hgood
  cells b cs hb := by
    obtain ⟨r, arr, el, t, e, hw, hg, ht, hr⟩ := h.cells b cs hb
    obtain ⟨h1, h2⟩ := hsame b r (by simp [real, hb, e])
    exact ⟨r, arr, el, t, e, by rw [h1]; exact hw, by rw [h2]; exact hg, ht, hr.mono hΓ (Locs.le_refl _)⟩
  perm b sz k hb := by
    obtain ⟨pl, e, hj, hn, hp⟩ := h.perm b sz k hb
    refine ⟨pl, e, hj, hn, fun r cap hpl => ?_⟩
    obtain ⟨arr, el, gs, t, hw, hg, ht⟩ := hp r cap hpl
    obtain ⟨h1, h2⟩ := hsame b r (by simp [real, hb, e, hpl])
    exact ⟨arr, el, gs, t, by rw [h1]; exact hw, by rw [h2]; exact hg, ht⟩
  map b es hb := by
    obtain ⟨r, ms, clk, e, hw, hg, h3, h4⟩ := h.map b es hb
    obtain ⟨h1, h2⟩ := hsame b r (by simp [real, hb, e])
    exact ⟨r, ms, clk, e, by rw [h1]; exact hw, by rw [h2]; exact hg, h3.mono hΓ (Locs.le_refl _), h4.mono hΓ (Locs.le_refl _)⟩
  inj := h.inj
  fresh := h.fresh

theorem HInv.ext0 (h : HInv Γ L H next w) (e : Ext0 Γ w Γ' w') : HInv Γ' L H next w' :=
  h.frame e.imm e.good fun _ _ hr => e.block _ (h.real_lt hr)

/-- The context of a frame: how it was when the function was entered. -/
structure Ctx where
  Γ : Imm
  L : Locs
  h : HS
  w : World

structure Good (c : Ctx) (n : Nat) (Γ : Imm) (L : Locs) (s : St) (tmps : Array Value) (w : World) : Prop where
  f : FInv c.w.heap.size n Γ L s tmps w
  since : Since c.Γ c.L c.h c.w Γ L s.hs w

variable {c : Ctx}

/-- A frame whose slots are as they were, over memory that has grown or changed elsewhere. -/
theorem FInv.frame {H' : Nat → Option Blk} {next' : Nat} {tmps : Array Value} (hf : FInv B n Γ L s tmps w) (hΓ : Γ.le Γ') (hL : L.le L') (hh : HInv Γ' L' H' next' w')
    (hv : ∀ t cs r, s.E t = .var cs → tmps[t]? = some (ptr r 0) → w'.heap[r]? = w.heap[r]? ∧ Γ' r = none ∧ ∀ b, real L' H' b ≠ some r) : FInv B n Γ' L' { s with H := H', next := next' } tmps w' where
  size := hf.size
  heap := hh
  val t v ht := by
    obtain ⟨x, hx, hr⟩ := hf.val t v ht
    exact ⟨x, hx, hr.mono hΓ hL⟩
  var t cs ht := by
    obtain ⟨r, arr, el, h1, h2, h3, h4, h5, h6⟩ := hf.var t cs ht
    obtain ⟨g1, g2, g3⟩ := hv t cs r ht h1
    exact ⟨r, arr, el, h1, h2, by rw [g1]; exact h3, g2, h5.mono hΓ hL, g3⟩
  varInj := hf.varInj
  lref := hf.lref

theorem Good.ext0 {tmps : Array Value} (hg : Good c n Γ L s tmps w) (e : Ext0 Γ w Γ' w') : Good c n Γ' L s tmps w' where
  f := hg.f.frame e.imm (Locs.le_refl _) (hg.f.heap.ext0 e) fun t cs r ht hr => by
    obtain ⟨r', arr, el, h1, h2, h3, h4, h5, h6⟩ := hg.f.var t cs ht
    rw [hr] at h1; injection h1 with h1; injection h1 with h1; injection h1 with h1; injection h1 with h1
    subst h1
    obtain ⟨g1, g2⟩ := e.block r (heap_lt h3)
    exact ⟨g1, by rw [g2]; exact h4, h6⟩
  since := hg.since.trans
    { imm := e.imm, locs := Locs.le_refl _, os := e.os, tape := e.tape, output := e.output, size := e.size, block := fun r hr _ => e.block r hr, low := fun _ _ => ⟨rfl, fun _ => rfl, rfl⟩,
      dead := fun _ _ h => ⟨h, rfl, fun _ => rfl⟩, own := fun b r h k => .inl ⟨b, h, k⟩, floor := rfl, next := Nat.le_refl _ }

theorem put_some {s s' : St} {d : Nat} {x : Slot} (h : put s (some d) x = some s') : (∀ cs, s.E d ≠ .var cs) ∧ s' = { s with E := upd s.E d x } := by
  simp only [put] at h
  split at h
  · cases h
  · rename_i hn
    injection h with h
    exact ⟨fun cs e => hn cs e, h.symm⟩

theorem get_set_ne {tmps : Array Value} {d t : Nat} {x : Value} (h : t ≠ d) : (tmps.setIfInBounds d x)[t]? = tmps[t]? := by
  rw [Array.getElem?_setIfInBounds_ne (Ne.symm h)]
theorem get_set_self {tmps : Array Value} {d : Nat} {x : Value} (h : d < tmps.size) : (tmps.setIfInBounds d x)[d]? = some x := by
  simp [h]

/-- What may stand in a slot. -/
def SlotRep (Γ : Imm) (L : Locs) (s : St) (tmps : Array Value) : Slot → Value → Prop
  | .undef, _ => True
  | .val v, x => Rep Γ L v x
  | .lref t o, x => ∃ cs r, s.E t = .var cs ∧ tmps[t]? = some (ptr r 0) ∧ x = ptr r o
  | .var _, _ => False

/-- A slot is filled with a value, or with an address. -/
theorem FInv.put {tmps : Array Value} {s' : St} {d : Nat} {sl : Slot} {x : Value} (hf : FInv B n Γ L s tmps w) (hd : d < n) (hp : put s (some d) sl = some s') (hr : SlotRep Γ L s tmps sl x) :
    FInv B n Γ L s' (tmps.setIfInBounds d x) w := by
  obtain ⟨hnv, rfl⟩ := put_some hp
  have hsl : ∀ cs, sl ≠ .var cs := by
    intro cs e; subst e; exact hr
  have hE : ∀ t cs, upd s.E d sl t = .var cs → t ≠ d ∧ s.E t = .var cs := by
    intro t cs h
    unfold upd at h
    split at h
    · exact (hsl cs h).elim
    · exact ⟨by assumption, h⟩
  refine ⟨by simpa using hf.size, hf.heap, fun t v ht => ?_, fun t cs ht => ?_, fun t t' cs cs' r ht ht' h1 h2 => ?_, fun t t' o ht => ?_⟩
  · simp only [upd] at ht
    split at ht
    · rename_i e
      subst e
      subst ht
      exact ⟨x, get_set_self (by have := hf.size; omega), hr⟩
    · rename_i hne
      rw [get_set_ne hne]
      exact hf.val t v ht
  · obtain ⟨hne, ht⟩ := hE t cs ht
    rw [get_set_ne hne]
    exact hf.var t cs ht
  · obtain ⟨hne, ht⟩ := hE t cs ht
    obtain ⟨hne', ht'⟩ := hE t' cs' ht'
    rw [get_set_ne hne] at h1
    rw [get_set_ne hne'] at h2
    exact hf.varInj t t' cs cs' r ht ht' h1 h2
  · simp only [upd] at ht
    have key : ∀ t' cs r, s.E t' = .var cs → tmps[t']? = some (ptr r 0) → upd s.E d sl t' = .var cs ∧ (tmps.setIfInBounds d x)[t']? = some (ptr r 0) := by
      intro t' cs r h1 h2
      have hne : t' ≠ d := by intro e; subst e; exact hnv cs h1
      exact ⟨by simp [upd, hne, h1], by rw [get_set_ne hne]; exact h2⟩
    split at ht
    · rename_i e
      subst e
      subst ht
      obtain ⟨cs, r, h1, h2, h3⟩ := hr
      obtain ⟨k1, k2⟩ := key t' cs r h1 h2
      exact ⟨cs, r, k1, k2, by rw [get_set_self (by have := hf.size; omega), h3]⟩
    · rename_i hne
      obtain ⟨cs, r, h1, h2, h3⟩ := hf.lref t t' o ht
      obtain ⟨k1, k2⟩ := key t' cs r h1 h2
      exact ⟨cs, r, k1, k2, by rw [get_set_ne hne]; exact h3⟩

theorem put_hs {s s' : St} {d : Option Nat} {x : Slot} (h : put s d x = some s') : s'.hs = s.hs := by
  cases d with
  | none => simp only [put, Option.some.injEq] at h; rw [h]
  | some d => obtain ⟨_, rfl⟩ := put_some h; rfl

/-- ... or with nothing, where the operation has no slot. -/
theorem Good.put {s' : St} {d : Option Nat} {sl : Slot} {x : Value} (hg : Good c n Γ L s a.tmps w) (hd : ∀ i, d = some i → i < n) (hp : put s d sl = some s') (hr : SlotRep Γ L s a.tmps sl x) :
    Good c n Γ L s' (a.put d x).tmps w := by
  refine ⟨?_, by rw [put_hs hp]; exact hg.since⟩
  cases d with
  | none =>
    simp only [Go.Abs.put, Option.some.injEq] at hp
    subst hp
    exact hg.f
  | some d => exact hg.f.put (hd d rfl) hp hr

/-- A variable of the frame's own is made. -/
theorem Good.putVar {s' : St} {d : Nat} {cs : List V} {xs : List Value} {el : TypeId} (hg : Good c n Γ L s a.tmps w) (hd : d < n) (hp : Go.Abs.put s (some d) (.var cs) = some s') (hr : Reps Γ L cs xs) :
    Good c n Γ L s' (a.put (some d) (ptr w.heap.size 0)).tmps (pushBlk w (.cells xs.toArray el)) := by
  obtain ⟨hnv, rfl⟩ := put_some hp
  have hΓn : Γ w.heap.size = none := by
    cases h : Γ w.heap.size with
    | none => rfl
    | some gs => exact absurd (hg.f.heap.imm_lt h) (Nat.lt_irrefl _)
  have hE : Ext0 Γ w Γ (pushBlk w (.cells xs.toArray el)) :=
    ⟨Imm.le_refl _, rfl, rfl, rfl, by simp, fun r hr => ⟨pushBlk_old hr, rfl⟩, fun r gs h => by
      obtain ⟨arr, e, fz, hw, ht⟩ := hg.f.heap.imm r gs h
      exact ⟨arr, e, fz, by rw [pushBlk_old (heap_lt hw)]; exact hw, ht⟩⟩
  have hg' := hg.ext0 hE
  have hf := hg'.f
  have hsz : w.heap.size = c.w.heap.size + (w.heap.size - c.w.heap.size) := by have := hg.since.size; omega
  have hoff : ∀ t cs' r, s.E t = .var cs' → a.tmps[t]? = some (ptr r 0) → r < w.heap.size := by
    intro t cs' r ht hr'
    obtain ⟨r', arr, el', h1, _, h3, _⟩ := hg.f.var t cs' ht
    rw [hr'] at h1; injection h1 with h1; injection h1 with h1; injection h1 with h1; injection h1 with h1
    subst h1
    exact heap_lt h3
  refine ⟨⟨by simpa [Act.put] using hf.size, hf.heap, fun t v ht => ?_, fun t cs' ht => ?_, fun t t' cs1 cs2 r ht ht' h1 h2 => ?_, fun t t' o ht => ?_⟩, hg'.since⟩
  · simp only [upd] at ht
    split at ht
    · cases ht
    · rename_i hne
      simp only [Act.put]
      rw [get_set_ne hne]
      exact hf.val t v ht
  · simp only [upd] at ht
    simp only [Act.put]
    split at ht
    · rename_i e
      subst e
      injection ht with ht
      subst ht
      refine ⟨w.heap.size, xs.toArray, el, get_set_self (by have := hf.size; omega), by omega, pushBlk_new _, hΓn, by simpa using hr, fun b hb => ?_⟩
      exact absurd (hg.f.heap.real_lt hb) (Nat.lt_irrefl _)
    · rename_i hne
      rw [get_set_ne hne]
      exact hf.var t cs' ht
  · simp only [upd] at ht ht'
    simp only [Act.put] at h1 h2
    by_cases e1 : t = d
    · by_cases e2 : t' = d
      · rw [e1, e2]
      · exfalso
        rw [if_neg e2] at ht'
        rw [e1, get_set_self (by have := hf.size; omega)] at h1
        rw [get_set_ne e2] at h2
        injection h1 with h1; injection h1 with h1; injection h1 with h1; injection h1 with h1
        have := hoff t' cs2 r ht' h2
        omega
    · rw [if_neg e1] at ht
      rw [get_set_ne e1] at h1
      by_cases e2 : t' = d
      · exfalso
        rw [e2, get_set_self (by have := hf.size; omega)] at h2
        injection h2 with h2; injection h2 with h2; injection h2 with h2; injection h2 with h2
        have := hoff t cs1 r ht h1
        omega
      · rw [if_neg e2] at ht'
        rw [get_set_ne e2] at h2
        exact hf.varInj t t' cs1 cs2 r ht ht' h1 h2
  · simp only [upd] at ht
    split at ht
    · cases ht
    · rename_i hne
      obtain ⟨cs', r, h1, h2, h3⟩ := hf.lref t t' o ht
      have hne' : t' ≠ d := by intro e; subst e; exact hnv cs' h1
      simp only [Act.put]
      exact ⟨cs', r, by simp [upd, hne', h1], by rw [get_set_ne hne']; exact h2, by rw [get_set_ne hne]; exact h3⟩

end
end Go.Abs
