/-
  WHAT AN EXPRESSION READS: the document's Reads.
-/
import Derived.Test.YtagmcgbbgjkdbaaRd10c
set_option linter.all false
namespace Go.Abs.M
open Go Go.Abs Go.Abs.Try

def addR (out : List Read) (r : Read) : List Read := if r ∈ out then out else out ++ [r]
def mergeR (out l : List Read) : List Read := l.foldl addR out
def ownR (k : Int) (n s : Str) : List Read := if k = 2 then [⟨[], n⟩] else if k = 10 then [⟨s, n⟩] else []
mutual
def refR : Expr → List Read
  | ⟨k, _, n, s, _, _, _, xs⟩ => refL xs (ownR k n s)
def refL : List Expr → List Read → List Read
  | [], out => out
  | x :: xs, out => refL xs (mergeR out (refR x))
end

theorem eq_read (H : Nat → Option Blk) (r q : Read) : eqV H (.agg [.s, .s]) (.agg r.cells) (.agg q.cells) = some (decide (r = q)) := by
  have := key_eq r q
  simpa [keyEq, eqV] using this

section
variable (nat : Natives) (x : Expr) (out l : List Read) (i4 : Int) (j : Nat) (H : Nat → Option Blk) (nx : Nat)

abbrev env0 (had : Bool) (i : Nat) : List (Nat × Slot) := [(1, .var x.cells), (3, .val (.list (.own 0) (out.map Read.cells))), (4, .val (.int .i64 i4)), (5, .val (.list .no (l.map Read.cells))), (6, .val (.int .i64 j)), (7, .val (.bool had)), (8, .val (.int .i64 i))]

theorem ref_l0_end {R : Type} (k : Ex → St → Option R) (had : Bool) :
    loopK (callI nat tbl) [1, 3, 4, 5, 6, 7, 8] g17_l0 ⟨mkEnv (env0 x out l i4 j had out.length), H, nx, 0⟩ (blockK 4 (limK [1, 3, 4, 5, 6, 7] k)) =
      k .normal ⟨mkEnv [(1, .var x.cells), (3, .val (.list (.own 0) (out.map Read.cells))), (4, .val (.int .i64 i4)), (5, .val (.list .no (l.map Read.cells))), (6, .val (.int .i64 j)), (7, .val (.bool had))], H, nx, 0⟩ := by
  rw [loopK_eq]
  conv => lhs; arg 2; unfold g17_l0
  simp [env0]

theorem ref_l0_round {R : Type} (k : Ex → St → Option R) (had : Bool) (i : Nat) (hi : i < out.length) (hr : out.length ≤ room) (q r : Read) (hq : out[i] = q) (hj : j < l.length) (hr2 : l[j] = r) :
    loopK (callI nat tbl) [1, 3, 4, 5, 6, 7, 8] g17_l0 ⟨mkEnv (env0 x out l i4 j had i), H, nx, 0⟩ (blockK 4 (limK [1, 3, 4, 5, 6, 7] k)) =
      loopK (callI nat tbl) [1, 3, 4, 5, 6, 7, 8] g17_l0 ⟨mkEnv (env0 x out l i4 j (had || decide (q = r)) (i + 1)), H, nx, 0⟩ (blockK 4 (limK [1, 3, 4, 5, 6, 7] k)) := by
  have hroom : room = 4294967296 := rfl
  have hw : IntKind.i64.wrap ((i : Int) + 1) = (i : Int) + 1 := wrap_i64 _ (by omega) (by omega)
  rw [loopK_eq]
  conv => lhs; arg 2; unfold g17_l0
  cases had
  · simp [env0, hi, hj, idx_nat, hq, hr2, eq_read, hw]
  · simp [env0, hi, hw]

theorem ref_l0 {R : Type} (k : Ex → St → Option R) (hr : out.length ≤ room) (r : Read) (hj : j < l.length) (hr2 : l[j] = r) : ∀ (n i : Nat), i + n = out.length →
    loopK (callI nat tbl) [1, 3, 4, 5, 6, 7, 8] g17_l0 ⟨mkEnv (env0 x out l i4 j (decide (r ∈ out.take i)) i), H, nx, 0⟩ (blockK 4 (limK [1, 3, 4, 5, 6, 7] k)) =
      k .normal ⟨mkEnv [(1, .var x.cells), (3, .val (.list (.own 0) (out.map Read.cells))), (4, .val (.int .i64 i4)), (5, .val (.list .no (l.map Read.cells))), (6, .val (.int .i64 j)), (7, .val (.bool (decide (r ∈ out))))], H, nx, 0⟩
  | 0, i, hn => by
    have : i = out.length := by omega
    subst this
    rw [List.take_length, ref_l0_end]
  | n + 1, i, hn => by
    have hi : i < out.length := by omega
    rw [ref_l0_round nat x out l i4 j H nx k _ i hi hr _ r rfl hj hr2]
    have e : (decide (r ∈ out.take i) || decide (out[i] = r)) = decide (r ∈ out.take (i + 1)) := by
      rw [List.take_succ_eq_append_getElem hi, Bool.eq_iff_iff]
      simp only [Bool.or_eq_true, decide_eq_true_eq, List.mem_append, List.mem_singleton]
      constructor
      · rintro (h | h)
        · exact .inl h
        · exact .inr h.symm
      · rintro (h | h)
        · exact .inl h
        · exact .inr h.symm
    rw [e]
    exact ref_l0 k hr r hj hr2 n (i + 1) (by omega)
end
end Go.Abs.M
