/-
  BYTES AS TEXT.
-/
import Derived.Test.YtagmcgbbgjkdbaaAbs16
set_option linter.all false
namespace Go.Abs
open Go

section
variable {P : Program} {B n : Nat} {Γ Γ' : Imm} {L L' : Locs} {s : St} {a : Act} {w w' : World} {H : Nat → Option Blk}

theorem byteOf_spec {e : List V} {b : UInt8} (h : byteOf e = some b) : ∃ k, e = [.int .u8 k] ∧ b = UInt8.ofNat k.toNat := by
  unfold byteOf at h
  split at h
  · injection h with h
    exact ⟨_, rfl, h.symm⟩
  · cases h

/-- Cells that are bytes. -/
inductive Bytes : List Value → List UInt8 → Prop where
  | nil : Bytes [] []
  | cons (k : Int) {xs : List Value} {bs : List UInt8} (h : Bytes xs bs) : Bytes (.int .u8 k :: xs) (UInt8.ofNat k.toNat :: bs)

theorem bytes_of : ∀ (es : List (List V)) (bs : List UInt8) (xs : List Value), bytesOf es = some bs → Reps Γ L es.flatten xs → Bytes xs bs ∧ headLen 1 es = true := by
  intro es
  induction es with
  | nil =>
    intro bs xs h hr
    simp only [bytesOf, Option.some.injEq] at h
    subst h
    have : xs = [] := List.eq_nil_of_length_eq_zero (by simpa using hr.1.symm)
    subst this
    exact ⟨.nil, rfl⟩
  | cons e es ih =>
    intro bs xs h hr
    simp only [bytesOf, Option.bind_eq_some_iff, Option.some.injEq] at h
    obtain ⟨b, hb, bs', hbs, rfl⟩ := h
    obtain ⟨k, rfl, rfl⟩ := byteOf_spec hb
    cases xs with
    | nil => have := hr.1; simp at this
    | cons x xs =>
      have hx : Rep Γ L (.int .u8 k) x := hr.2 0 _ _ rfl rfl
      rw [hx.inv_int]
      have hr' : Reps Γ L es.flatten xs := ⟨by have := hr.1; simp only [List.flatten_cons, List.singleton_append, List.length_cons] at this; omega, fun j c y hc hy => hr.2 (j + 1) c y (by simpa using hc) (by simpa using hy)⟩
      exact ⟨.cons k (ih bs' xs hbs hr').1, rfl⟩

theorem bytes_loop {f : Value → ByteArray → Sem (ForInStep ByteArray)} (hf : ∀ k r, f (.int .u8 k) r = pure (ForInStep.yield (r.push (UInt8.ofNat k.toNat)))) {xs : List Value} {bs : List UInt8} (h : Bytes xs bs) : ∀ s0 : ByteArray,
    ∃ s1 : ByteArray, s1.data.toList = s0.data.toList ++ bs ∧ (forIn xs s0 f).run P w = .ok s1 w := by
  induction h with
  | nil => intro s0; exact ⟨s0, by simp, by simp⟩
  | cons k h ih =>
    intro s0
    obtain ⟨s1, h1, h2⟩ := ih (s0.push (UInt8.ofNat k.toNat))
    refine ⟨s1, ?_, ?_⟩
    · rw [h1]; simp [ByteArray.push]
    · rw [List.forIn_cons, hf]
      simp only [Sem.run_bind, Sem.run_pure, Result.andThen_ok]
      exact h2

theorem bytes_head {es : List (List V)} {bs : List UInt8} (h : bytesOf es = some bs) : headLen 1 es = true := by
  cases es with
  | nil => rfl
  | cons e es =>
    simp only [bytesOf, Option.bind_eq_some_iff] at h
    obtain ⟨b, hb, _⟩ := h
    obtain ⟨k, rfl, _⟩ := byteOf_spec hb
    rfl

theorem elems_slice (hf : FInv B n Γ L s a.tmps w) {y : Opd} {Y : Operand} {v : V} {sz : Nat} {new : List (List V)} (hy : okOpd y Y = true) (hv : y.eval s.E = some v) (he : elemsOf s.H sz v = some new) (hns : ∀ t, v ≠ .str t) :
    ∃ ad cap, a.eval Y = .slice ad new.length cap := by
  have hr := opd_rep hf hy hv
  cases v <;> simp only [elemsOf, reduceCtorEq, Option.some.injEq] at he
  · exact (hns _ rfl).elim
  · subst he
    obtain ⟨ad, cap, sz', gs, vals, e, _⟩ := hr.inv_list
    exact ⟨ad, cap, e⟩
  · split at he
    · rename_i hs
      subst hs
      split at he
      · rw [Option.bind_eq_some_iff] at he
        obtain ⟨cells, hg, he⟩ := he
        injection he with he
        subst he
        cases hX : a.eval Y <;> rw [hX] at hr <;> cases hr
        rw [chunks_length]
        exact ⟨_, _, rfl⟩
      · cases he
    · cases he

theorem ok_strOf (hf : FInv B n Γ L s a.tmps w) {src dst e : TypeId} {x : Opd} {X : Operand} {v u : V} (h1 : P.underlying src = some (.slice e)) (h2 : P.underlying dst = some .string) (h3 : P.underlying e = some (.int .u8))
    (hx : okOpd x X = true) (hv : x.eval s.E = some v) (hu : strR s.H v = some u) : VOK P Γ L w (convert src dst (a.eval X)) u := by
  have hu' : (∀ t, v ≠ .str t) ∧ ∃ es bs, elemsOf s.H 1 v = some es ∧ bytesOf es = some bs ∧ u = .str bs := by
    cases v <;> simp only [strR, reduceCtorEq, Option.bind_eq_some_iff, Option.some.injEq] at hu <;>
      (obtain ⟨es, h1, bs, h2, h3⟩ := hu; exact ⟨fun t => (by simp), es, bs, h1, h2, h3.symm⟩)
  obtain ⟨hns, es, bs, he, hbs, rfl⟩ := hu'
  obtain ⟨_, xs, hxl, hrx, hrun⟩ := elems_cells (P := P) hf hx hv he (bytes_head hbs)
  obtain ⟨ad, cap, hX⟩ := elems_slice hf hx hv he hns
  have hb := (bytes_of es bs xs hbs hrx).1
  have hfirst := hrun w rfl
  rw [hX] at hfirst ⊢
  cases ad with
  | none =>
    simp only [Builtin.firstCells, Sem.run_pure, Result.ok.injEq, and_true] at hfirst
    have hnil : xs = [] := by
      have := congrArg Array.toList hfirst
      simpa using this.symm
    subst hnil
    cases hb
    refine .here hf.heap ?_ (.str [] ByteArray.empty rfl)
    simp [convert, run_underlying h1, run_underlying h2, run_underlying h3, Conv.bytesToString]
  | some p =>
    simp only [Builtin.firstCells, Nat.mul_one] at hfirst
    have key : ∃ s1 : ByteArray, s1.data.toList = bs ∧ (convert src dst (.slice (some p) es.length cap)).run P w = .ok (.string s1) w := by
      simp only [convert, Sem.run_bind, run_underlying h1, run_underlying h2, run_underlying h3, Result.andThen_ok, Conv.bytesToString, hfirst, List.forIn_toArray]
      obtain ⟨s1, hs1, hloop⟩ := bytes_loop (P := P) (w := w) (f := fun c __s => match c with | .int .u8 n => pure (ForInStep.yield (__s.push (UInt8.ofNat n.toNat))) | _ => do
        stuck "bytesToString: byte expected"
        pure (ForInStep.yield __s)) (fun _ _ => rfl) hb ByteArray.empty
      refine ⟨s1, by rw [hs1]; rfl, ?_⟩
      have hl : _ = Result.ok s1 w := hloop
      refine Eq.trans (congrArg (fun r => Result.andThen r _) hl) ?_
      simp
    obtain ⟨s1, e1, e2⟩ := key
    exact .here hf.heap e2 (.str bs s1 e1)
end
end Go.Abs
