/-
  TypesReads: the law's call answers true, whatever the expression; the plain law: both ways of reading say the same.
-/
import Derived.Test.YtagmcgbbgjkdbaaRd10e
import Derived.Test.YtagmcgbbgjkdbaaBeg10
set_option linter.all false
namespace Go.Abs.M
open Go Go.Abs Go.Abs.Try

/-! The plain law -/
theorem mem_addR (out : List Read) (r q : Read) : q ∈ addR out r ↔ q ∈ out ∨ q = r := by
  unfold addR
  split
  · constructor
    · exact .inl
    · rintro (h | rfl)
      · exact h
      · assumption
  · simp
theorem mem_mergeR (q : Read) : ∀ (l out : List Read), q ∈ mergeR out l ↔ q ∈ out ∨ q ∈ l
  | [], out => by simp [mergeR]
  | r :: l, out => by
    have := mem_mergeR q l (addR out r)
    simp only [mergeR, List.foldl_cons] at this ⊢
    rw [this, mem_addR, List.mem_cons, or_assoc]
theorem mergeR_snoc (out l : List Read) (r : Read) : mergeR out (l ++ [r]) = addR (mergeR out l) r := by simp [mergeR]
theorem addR_merge (out a : List Read) (r : Read) : addR (mergeR out a) r = mergeR out (addR a r) := by
  by_cases h : r ∈ a
  · have h1 : r ∈ mergeR out a := (mem_mergeR r a out).2 (.inr h)
    simp [addR, h, h1]
  · rw [show addR a r = a ++ [r] by simp [addR, h], mergeR_snoc]
theorem mergeR_assoc (out : List Read) : ∀ (b a : List Read), mergeR (mergeR out a) b = mergeR out (mergeR a b)
  | [], a => rfl
  | r :: b, a => by
    have := mergeR_assoc out b (addR a r)
    simp only [mergeR, List.foldl_cons] at this ⊢
    rw [← this]
    congr 1
    exact addR_merge out a r
theorem stepR_own (k : Int) (n s : Str) (out : List Read) : stepR k n s out = mergeR out (ownR k n s) := by
  unfold stepR ownR
  by_cases k2 : k = 2
  · subst k2
    simp only [readOf, mergeR, List.foldl_cons, List.foldl_nil, addR, true_or, true_and, if_true]
    by_cases h : (⟨[], n⟩ : Read) ∈ out <;> simp [h]
  · by_cases k10 : k = 10
    · subst k10
      simp only [readOf, mergeR, List.foldl_cons, List.foldl_nil, addR, or_true, true_and, if_true]
      by_cases h : (⟨s, n⟩ : Read) ∈ out <;> simp [h, addR]
    · simp [k2, k10, mergeR]
mutual
theorem walkR_ref : ∀ (x : Expr) (out : List Read), walkR x out = mergeR out (refR x)
  | ⟨k, o, n, s, v, sc, p, xs⟩, out => by simp only [walkR, refR, stepR_own, walkL_ref xs out]
theorem walkL_ref : ∀ (xs : List Expr) (out a : List Read), walkL xs (mergeR out a) = mergeR out (refL xs a)
  | [], out, a => rfl
  | x :: xs, out, a => by simp only [walkL, refL, walkR_ref x, mergeR_assoc, walkL_ref xs out]
end
def Dup (l : List Read) : Prop := mergeR [] l = l
theorem Dup.merge {a : List Read} (h : Dup a) (b : List Read) : Dup (mergeR a b) := by
  unfold Dup at *
  rw [← mergeR_assoc, h]
theorem refL_dup : ∀ (xs : List Expr) (a : List Read), Dup a → Dup (refL xs a)
  | [], a, h => h
  | x :: xs, a, h => by simp only [refL]; exact refL_dup xs _ (h.merge _)
theorem refR_dup : ∀ x : Expr, Dup (refR x)
  | ⟨k, o, n, s, v, sc, p, xs⟩ => by
    simp only [refR]
    refine refL_dup xs _ ?_
    unfold ownR
    split
    · rfl
    · split <;> rfl
theorem reads_same (x : Expr) : walkR x [] = refR x := by rw [walkR_ref]; exact refR_dup x

/-! slices.Equal of a list and itself -/
section
variable (a : List Read) (H : Nat → Option Blk) (nx : Nat)
abbrev env16 (i : Nat) : List (Nat × Slot) := [(0, .val (.list .no (a.map Read.cells))), (1, .val (.list .no (a.map Read.cells))), (12, .val (.int .i64 a.length)), (13, .val (.int .i64 i))]
theorem equal_loop (ha : a.length ≤ room) : ∀ (n i : Nat), i + n = a.length → ∀ (R : Type) (k : Ex → St → Option R),
    loopK (callI nat tbl) [0, 1, 12, 13] g16_l0 ⟨mkEnv (env16 a i), H, nx, 0⟩ (blockK 0 (limK [] k)) = k .normal ⟨mkEnv [], H, nx, 0⟩
  | 0, i, hn, R, k => by
    have : i = a.length := by omega
    subst this
    rw [loopK_eq]
    conv => lhs; arg 2; unfold g16_l0
    simp [env16]
  | n + 1, i, hn, R, k => by
    have hi : i < a.length := by omega
    have hroom : room = 4294967296 := rfl
    have hw : IntKind.i64.wrap ((i : Int) + 1) = (i : Int) + 1 := wrap_i64 _ (by omega) (by omega)
    have ih := equal_loop ha n (i + 1) (by omega) R k
    simp [env16] at ih
    rw [loopK_eq]
    conv => lhs; arg 2; unfold g16_l0
    simp [env16, hi, idx_nat, eq_read, hw, ih]
end
theorem call16 (a : List Read) (ha : a.length ≤ room) (h : HS) : callI nat tbl 16 [.list .no (a.map Read.cells), .list .no (a.map Read.cells)] h = some (.bool true, h) := by
  refine call0 (body := g16.body) (res := g16.results) (args' := [.list .no (a.map Read.cells), .list .no (a.map Read.cells)]) (u := .bool true) (h' := ⟨fun _ => none, 0, 0⟩) rfl (by simp [sealL, sealV, sealReads, sealP]) ?_ rfl
  have hl := fun (R : Type) (k : Ex → St → Option R) => equal_loop a (fun _ => none) 0 ha a.length 0 (by omega) R k
  simp [env16] at hl
  rw [runI_K]
  unfold g16
  simp [argEnv, hl, readRes, Opd.eval, packRes]

/-- THE LAW's CALL. -/
theorem typesReads (x : Expr) (hn : nodes x ≤ room) (h : HS) : callI nat tbl 4 [.agg x.cells] h = some (.bool true, h) := by
  have h9 := call9 nat x hn
  have h17 := call17 nat x hn
  have h16 := call16 (refR x) (by have := refR_len x; omega)
  rw [reads_same] at h9
  refine call0 (body := g4.body) (res := g4.results) (args' := [.agg x.cells]) (u := .bool true) (h' := ⟨fun _ => none, 0, 0⟩) rfl (by simp [sealL, sealV]) ?_ rfl
  rw [runI_K]
  unfold g4
  simp [argEnv, masked_pure Go.Abs.Try.begun, masked_pure h9, masked_pure h17, masked_pure h16, readRes, Opd.eval, packRes]
end Go.Abs.M
