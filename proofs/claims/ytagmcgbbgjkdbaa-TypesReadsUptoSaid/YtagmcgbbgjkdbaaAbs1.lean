/-
  WHAT AN ABSTRACT VALUE STANDS FOR, and what an abstract heap stands for, in a world of the model.
-/
import Derived.Test.YtagmcgbbgjkdbaaAbs0
import Derived.Below
import Derived.Orders
import Derived.WalkKit
set_option linter.all false
namespace Go.Abs
open Go

/-- Blocks that stay: the first cells of a block, which nobody writes any more. -/
abbrev Imm := Nat → Option (List Value)

/-- Where the abstract blocks lie: a block of cells or a map; the room of a slice that grows, at each of its lengths (none: nil; a block, its room in elements). -/
structure Locs where
  blk : Nat → Option Nat
  perm : Nat → Nat → Option (Option (Nat × Nat))

inductive Rep (Γ : Imm) (L : Locs) : V → Value → Prop
  | int (k : IntKind) (n : Int) : Rep Γ L (.int k n) (.int k n)
  | bool (b : Bool) : Rep Γ L (.bool b) (.bool b)
  | str (s : List UInt8) (b : ByteArray) (h : b.data.toList = s) : Rep Γ L (.str s) (.string b)
  | nilp : Rep Γ L .nilp (.pointer none)
  | ref (b off r : Nat) (h : L.blk b = some r) : Rep Γ L (.ref b off) (.pointer (some ⟨r, off, none⟩))
  | pim (cs : List V) (r off : Nat) (gs : List Value) (vals : Nat → Value) (hg : Γ r = some gs)
      (hv : ∀ j c, cs[j]? = some c → gs[off + j]? = some (vals j)) (hr : ∀ j c, cs[j]? = some c → Rep Γ L c (vals j)) :
      Rep Γ L (.pim cs) (.pointer (some ⟨r, off, none⟩))
  | list (p : Perm) (es : List (List V)) (a : Option Addr) (cap sz : Nat) (gs : List Value) (vals : Nat → Nat → Value)
      (hsz : ∀ e ∈ es, e.length = sz)
      (hb : es ≠ [] → ∃ ad, a = some ad ∧ ad.spot = none ∧ Γ ad.block = some gs)
      (hc : ∀ ad, a = some ad → ∀ i j e c, es[i]? = some e → e[j]? = some c → gs[ad.off + i * sz + j]? = some (vals i j))
      (hr : ∀ i j e c, es[i]? = some e → e[j]? = some c → Rep Γ L c (vals i j))
      (hcap : es.length ≤ cap) (hfull : p = .full → cap = es.length)
      (hown : ∀ b, p = .own b → L.perm b es.length = some (a.map fun ad => (ad.block, cap)) ∧ (∀ ad, a = some ad → ad.off = 0 ∧ ad.spot = none) ∧ (a = none → cap = 0)) :
      Rep Γ L (.list p es) (.slice a es.length cap)
  | buf (b off sz n r : Nat) (a : Option Addr) (cap : Nat) (h : L.blk b = some r) (ha : n ≠ 0 → a = some ⟨r, off, none⟩) (hcap : n ≤ cap) :
      Rep Γ L (.buf b off sz n) (.slice a n cap)
  | mapr (b r : Nat) (h : L.blk b = some r) : Rep Γ L (.mapr b) (.map (some r))
  | nilm : Rep Γ L .nilm (.map none)
  | fn (f : Nat) (cap : List V) (xs : List Value) (hl : cap.length = xs.length) (hr : ∀ (j : Nat) c x, cap[j]? = some c → xs[j]? = some x → Rep Γ L c x) :
      Rep Γ L (.fn f cap) (.func (.func f) #[] xs.toArray)
  | nilf : Rep Γ L .nilf .nilFunc
  | agg (cs : List V) (xs : List Value) (hl : cs.length = xs.length) (hr : ∀ (j : Nat) c x, cs[j]? = some c → xs[j]? = some x → Rep Γ L c x) :
      Rep Γ L (.agg cs) (.agg xs.toArray)
  | tup (cs : List V) (xs : List Value) (hl : cs.length = xs.length) (hr : ∀ (j : Nat) c x, cs[j]? = some c → xs[j]? = some x → Rep Γ L c x) :
      Rep Γ L (.tup cs) (.tuple xs.toArray)
  | undef : Rep Γ L .undef Go.undef

/-- Lists of values, one by one. -/
def Reps (Γ : Imm) (L : Locs) (cs : List V) (xs : List Value) : Prop :=
  cs.length = xs.length ∧ ∀ (j : Nat) c x, cs[j]? = some c → xs[j]? = some x → Rep Γ L c x

def Imm.le (Γ Γ' : Imm) : Prop := ∀ r gs, Γ r = some gs → ∃ t, Γ' r = some (gs ++ t)
structure Locs.le (L L' : Locs) : Prop where
  blk : ∀ b r, L.blk b = some r → L'.blk b = some r
  perm : ∀ b n p, L.perm b n = some p → L'.perm b n = some p

theorem Imm.le_refl (Γ : Imm) : Γ.le Γ := fun _ gs h => ⟨[], by simpa using h⟩
theorem Imm.le_trans {a b c : Imm} (h : a.le b) (k : b.le c) : a.le c := fun r gs hg => by
  obtain ⟨t, ht⟩ := h r gs hg
  obtain ⟨u, hu⟩ := k r _ ht
  exact ⟨t ++ u, by rw [hu, List.append_assoc]⟩
theorem Locs.le_refl (L : Locs) : L.le L := ⟨fun _ _ h => h, fun _ _ _ h => h⟩
theorem Locs.le_trans {a b c : Locs} (h : a.le b) (k : b.le c) : a.le c := ⟨fun b r hh => k.blk b r (h.blk b r hh), fun b n p hh => k.perm b n p (h.perm b n p hh)⟩

theorem get_append {α : Type} {l t : List α} {i : Nat} {x : α} (h : l[i]? = some x) : (l ++ t)[i]? = some x := by
  rw [List.getElem?_append_left (List.getElem?_eq_some_iff.1 h).1, h]

theorem Rep.mono {Γ Γ' : Imm} {L L' : Locs} (hΓ : Γ.le Γ') (hL : L.le L') {v : V} {x : Value} (h : Rep Γ L v x) : Rep Γ' L' v x := by
  induction h with
  | int k n => exact .int k n
  | bool b => exact .bool b
  | str s b h => exact .str s b h
  | nilp => exact .nilp
  | ref b off r h => exact .ref b off r (hL.blk _ _ h)
  | pim cs r off gs vals hg hv hr ih =>
    obtain ⟨t, ht⟩ := hΓ _ _ hg
    exact .pim cs r off (gs ++ t) vals ht (fun j c hj => get_append (hv j c hj)) ih
  | list p es a cap sz gs vals hsz hb hc hr hcap hfull hown ih =>
    cases hes : es with
    | nil =>
      subst hes
      exact .list p [] a cap sz gs vals hsz (fun h => (h rfl).elim) hc ih hcap hfull (fun b hb => ⟨hL.perm _ _ _ (hown b hb).1, (hown b hb).2⟩)
    | cons e es' =>
      rw [← hes]
      obtain ⟨ad, ha, hs, hg⟩ := hb (by simp [hes])
      obtain ⟨t, ht⟩ := hΓ _ _ hg
      exact .list p es a cap sz (gs ++ t) vals hsz (fun _ => ⟨ad, ha, hs, ht⟩) (fun ad had i j e c hi hj => get_append (hc ad had i j e c hi hj)) ih hcap hfull
        (fun b hb => ⟨hL.perm _ _ _ (hown b hb).1, (hown b hb).2⟩)
  | buf b off sz n r a cap h ha hcap => exact .buf b off sz n r a cap (hL.blk _ _ h) ha hcap
  | mapr b r h => exact .mapr b r (hL.blk _ _ h)
  | nilm => exact .nilm
  | fn f cap xs hl hr ih => exact .fn f cap xs hl ih
  | nilf => exact .nilf
  | agg cs xs hl hr ih => exact .agg cs xs hl ih
  | tup cs xs hl hr ih => exact .tup cs xs hl ih
  | undef => exact .undef

theorem Reps.mono {Γ Γ' : Imm} {L L' : Locs} (hΓ : Γ.le Γ') (hL : L.le L') {cs : List V} {xs : List Value} (h : Reps Γ L cs xs) : Reps Γ' L' cs xs :=
  ⟨h.1, fun j c x hc hx => (h.2 j c x hc hx).mono hΓ hL⟩

section reps
variable {Γ : Imm} {L : Locs}
theorem Reps.nil : Reps Γ L [] [] := ⟨rfl, fun j c x h => by simp at h⟩
theorem Reps.cons {c : V} {x : Value} {cs : List V} {xs : List Value} (h : Rep Γ L c x) (hs : Reps Γ L cs xs) : Reps Γ L (c :: cs) (x :: xs) := by
  refine ⟨by simp [hs.1], fun j d y hd hy => ?_⟩
  cases j with
  | zero => simp at hd hy; subst hd; subst hy; exact h
  | succ j => simp at hd hy; exact hs.2 j d y hd hy
theorem Reps.inv_cons {c : V} {cs : List V} {xs : List Value} (h : Reps Γ L (c :: cs) xs) : ∃ x xs', xs = x :: xs' ∧ Rep Γ L c x ∧ Reps Γ L cs xs' := by
  cases xs with
  | nil => have := h.1; simp at this
  | cons x xs => exact ⟨x, xs, rfl, h.2 0 c x rfl rfl, by have := h.1; simpa using this, fun j d y hd hy => h.2 (j + 1) d y (by simpa using hd) (by simpa using hy)⟩
theorem Reps.inv_nil {xs : List Value} (h : Reps Γ L [] xs) : xs = [] := by
  have := h.1; cases xs <;> simp_all
theorem Reps.get {cs : List V} {xs : List Value} (h : Reps Γ L cs xs) {j : Nat} {c : V} (hc : cs[j]? = some c) : ∃ x, xs[j]? = some x ∧ Rep Γ L c x := by
  have hl : j < xs.length := by rw [← h.1]; exact (List.getElem?_eq_some_iff.1 hc).1
  exact ⟨xs[j], List.getElem?_eq_getElem hl, h.2 j c _ hc (List.getElem?_eq_getElem hl)⟩
theorem Reps.take {cs : List V} {xs : List Value} (h : Reps Γ L cs xs) (n : Nat) : Reps Γ L (cs.take n) (xs.take n) := by
  refine ⟨by simp [h.1], fun j c x hc hx => ?_⟩
  rw [List.getElem?_take] at hc hx
  split at hc
  · rename_i hj; rw [if_pos hj] at hx; exact h.2 j c x hc hx
  · cases hc
theorem Reps.drop {cs : List V} {xs : List Value} (h : Reps Γ L cs xs) (n : Nat) : Reps Γ L (cs.drop n) (xs.drop n) := by
  refine ⟨by simp [h.1], fun j c x hc hx => ?_⟩
  rw [List.getElem?_drop] at hc hx
  exact h.2 _ c x hc hx
theorem Reps.append {cs ds : List V} {xs ys : List Value} (h : Reps Γ L cs xs) (k : Reps Γ L ds ys) : Reps Γ L (cs ++ ds) (xs ++ ys) := by
  refine ⟨by simp [h.1, k.1], fun j c x hc hx => ?_⟩
  by_cases hj : j < cs.length
  · rw [List.getElem?_append_left hj] at hc
    rw [List.getElem?_append_left (by rw [← h.1]; exact hj)] at hx
    exact h.2 j c x hc hx
  · rw [List.getElem?_append_right (by omega)] at hc
    rw [List.getElem?_append_right (by rw [← h.1]; omega), ← h.1] at hx
    exact k.2 _ c x hc hx
theorem Reps.one {c : V} {x : Value} (h : Rep Γ L c x) : Reps Γ L [c] [x] := .cons h .nil
theorem Reps.inv_one {c : V} {xs : List Value} (h : Reps Γ L [c] xs) : ∃ x, xs = [x] ∧ Rep Γ L c x := by
  obtain ⟨x, xs', rfl, hx, ht⟩ := h.inv_cons
  exact ⟨x, by rw [ht.inv_nil], hx⟩
theorem Rep.agg' {cs : List V} {xs : List Value} (h : Reps Γ L cs xs) : Rep Γ L (.agg cs) (.agg xs.toArray) := .agg cs xs h.1 h.2
theorem Rep.tup' {cs : List V} {xs : List Value} (h : Reps Γ L cs xs) : Rep Γ L (.tup cs) (.tuple xs.toArray) := .tup cs xs h.1 h.2
theorem Rep.fn' {f : Nat} {cs : List V} {xs : List Value} (h : Reps Γ L cs xs) : Rep Γ L (.fn f cs) (.func (.func f) #[] xs.toArray) := .fn f cs xs h.1 h.2
theorem Rep.inv_agg {cs : List V} {x : Value} (h : Rep Γ L (.agg cs) x) : ∃ xs, x = .agg xs.toArray ∧ Reps Γ L cs xs := by
  cases h with | agg _ xs hl hr => exact ⟨xs, rfl, hl, hr⟩
theorem Rep.inv_tup {cs : List V} {x : Value} (h : Rep Γ L (.tup cs) x) : ∃ xs, x = .tuple xs.toArray ∧ Reps Γ L cs xs := by
  cases h with | tup _ xs hl hr => exact ⟨xs, rfl, hl, hr⟩
theorem Rep.inv_fn {f : Nat} {cs : List V} {x : Value} (h : Rep Γ L (.fn f cs) x) : ∃ xs, x = .func (.func f) #[] xs.toArray ∧ Reps Γ L cs xs := by
  cases h with | fn _ _ xs hl hr => exact ⟨xs, rfl, hl, hr⟩
theorem Rep.inv_bool {b : Bool} {x : Value} (h : Rep Γ L (.bool b) x) : x = .bool b := by cases h; rfl
theorem Rep.inv_int {k : IntKind} {n : Int} {x : Value} (h : Rep Γ L (.int k n) x) : x = .int k n := by cases h; rfl
theorem Rep.inv_str {s : List UInt8} {x : Value} (h : Rep Γ L (.str s) x) : ∃ b : ByteArray, x = .string b ∧ b.data.toList = s := by cases h with | str _ b h => exact ⟨b, rfl, h⟩
/-- A value's cells. -/
theorem Rep.cells {v : V} {x : Value} (h : Rep Γ L v x) : Reps Γ L v.cells x.cells.toList := by
  cases v with
  | agg cs => obtain ⟨xs, rfl, hr⟩ := h.inv_agg; simpa [V.cells, Value.cells] using hr
  | _ => cases h <;> (refine Reps.one ?_; constructor <;> assumption)
/-- A value that is one cell is one cell of the model. -/
theorem Rep.oneCell {v : V} {x : Value} (h : Rep Γ L v x) (ho : v.one = true) : x.oneCell' = true := by
  cases h <;> simp_all [V.one, Value.oneCell']
end reps

/-- The real block of a live abstract block. -/
def real (L : Locs) (H : Nat → Option Blk) (b : Nat) : Option Nat :=
  match H b with
  | some (.cells _) | some (.map _) => L.blk b
  | some (.perm _ n) => match L.perm b n with
    | some (some (r, _)) => some r
    | _ => none
  | none => none

structure HInv (Γ : Imm) (L : Locs) (H : Nat → Option Blk) (next : Nat) (w : World) : Prop where
  imm : ∀ r gs, Γ r = some gs → ∃ arr el fz, w.heap[r]? = some (.cells arr el fz) ∧ ∃ t, arr.toList = gs ++ t
  cells : ∀ b cs, H b = some (.cells cs) → ∃ r arr el t, L.blk b = some r ∧ w.heap[r]? = some (.cells arr el (0, 0)) ∧ Γ r = none ∧ arr.toList = arr.toList.take cs.length ++ t ∧ Reps Γ L cs (arr.toList.take cs.length)
  perm : ∀ b sz n, H b = some (.perm sz n) → ∃ pl, L.perm b n = some pl ∧ (∀ j, n < j → L.perm b j = none) ∧ (pl = none → n = 0) ∧
    ∀ r cap, pl = some (r, cap) → ∃ arr el gs t, w.heap[r]? = some (.cells arr el (0, 0)) ∧ Γ r = some gs ∧ arr.toList = gs ++ t ∧ gs.length = n * sz ∧ arr.size = cap * sz
  map : ∀ b es, H b = some (.map es) → ∃ r ms clk, L.blk b = some r ∧ w.heap[r]? = some (.map ms clk) ∧ Γ r = none ∧
    Reps Γ L (es.map (·.1)) (ms.toList.map (·.key)) ∧ Reps Γ L (es.map (·.2)) (ms.toList.map (·.val))
  inj : ∀ b b' r, real L H b = some r → real L H b' = some r → b = b'
  fresh : ∀ b, next ≤ b → H b = none ∧ L.blk b = none ∧ ∀ n, L.perm b n = none

/-- What a piece of a call may have done since the world w: blocks that it does not own are as they were; abstract blocks below 'floor' too. -/
structure Since (Γ : Imm) (L : Locs) (h : HS) (w : World) (Γ' : Imm) (L' : Locs) (h' : HS) (w' : World) : Prop where
  imm : Γ.le Γ'
  locs : L.le L'
  os : w'.os = w.os
  tape : w'.tape = w.tape
  output : w'.output = w.output
  size : w.heap.size ≤ w'.heap.size
  block : ∀ r, r < w.heap.size → (∀ b, h.floor ≤ b → real L h.H b ≠ some r) → w'.heap[r]? = w.heap[r]? ∧ Γ' r = Γ r
  low : ∀ b, b < h.floor → L'.blk b = L.blk b ∧ (∀ n, L'.perm b n = L.perm b n) ∧ h'.H b = h.H b
  dead : ∀ b, b < h.next → h.H b = none → h'.H b = none ∧ L'.blk b = L.blk b ∧ ∀ n, L'.perm b n = L.perm b n
  own : ∀ b r, h.floor ≤ b → real L' h'.H b = some r → (∃ b', h.floor ≤ b' ∧ real L h.H b' = some r) ∨ w.heap.size ≤ r
  floor : h'.floor = h.floor
  next : h.next ≤ h'.next

theorem Since.refl (Γ : Imm) (L : Locs) (h : HS) (w : World) : Since Γ L h w Γ L h w :=
  ⟨Imm.le_refl _, Locs.le_refl _, rfl, rfl, rfl, Nat.le_refl _, fun _ _ _ => ⟨rfl, rfl⟩, fun _ _ => ⟨rfl, fun _ => rfl, rfl⟩, fun _ _ h => ⟨h, rfl, fun _ => rfl⟩, fun b r h k => .inl ⟨b, h, k⟩, rfl, Nat.le_refl _⟩

theorem Since.trans {Γ₀ Γ₁ Γ₂ : Imm} {L₀ L₁ L₂ : Locs} {h₀ h₁ h₂ : HS} {w₀ w₁ w₂ : World} (a : Since Γ₀ L₀ h₀ w₀ Γ₁ L₁ h₁ w₁) (b : Since Γ₁ L₁ h₁ w₁ Γ₂ L₂ h₂ w₂) : Since Γ₀ L₀ h₀ w₀ Γ₂ L₂ h₂ w₂ where
  imm := Imm.le_trans a.imm b.imm
  locs := Locs.le_trans a.locs b.locs
  os := b.os.trans a.os
  tape := b.tape.trans a.tape
  output := b.output.trans a.output
  size := Nat.le_trans a.size b.size
  block r hr hb := by
    obtain ⟨p, q⟩ := a.block r hr hb
    obtain ⟨p', q'⟩ := b.block r (Nat.lt_of_lt_of_le hr a.size) (fun c hc hre => by
      rcases a.own c r (by rw [← a.floor]; exact hc) hre with ⟨c', h1, h2⟩ | h1
      · exact hb c' h1 h2
      · omega)
    exact ⟨p'.trans p, q'.trans q⟩
  low c hc := by
    obtain ⟨p, q, r⟩ := a.low c hc
    obtain ⟨p', q', r'⟩ := b.low c (by rw [a.floor]; exact hc)
    exact ⟨p'.trans p, fun n => (q' n).trans (q n), r'.trans r⟩
  dead c hc hn := by
    obtain ⟨p, q, r⟩ := a.dead c hc hn
    obtain ⟨p', q', r'⟩ := b.dead c (Nat.lt_of_lt_of_le hc a.next) p
    exact ⟨p', q'.trans q, fun n => (r' n).trans (r n)⟩
  own c r hc hre := by
    rcases b.own c r (by rw [a.floor]; exact hc) hre with ⟨c', h1, h2⟩ | h1
    · exact a.own c' r (by rw [← a.floor]; exact h1) h2
    · exact .inr (Nat.le_trans a.size h1)
  floor := b.floor.trans a.floor
  next := Nat.le_trans a.next b.next

/-- What a call of the abstract machine says of the model's call. -/
def CallOK (P : Program) (f : Nat) (args : List V) (h : HS) (v : V) (h' : HS) : Prop :=
  ∀ Γ L w xs, HInv Γ L h.H h.next w → Reps Γ L args xs →
    Calls P f xs.toArray w fun e w' => ∃ x Γ' L', e = .returned x ∧ Rep Γ' L' v x ∧ HInv Γ' L' h'.H h'.next w' ∧ Since Γ L h w Γ' L' h' w'
end Go.Abs
