/-
  WHAT AN EXPRESSION READS: walk and its loop.
-/
import Derived.Test.YtagmcgbbgjkdbaaRd10
set_option linter.all false
namespace Go.Abs.M
open Go Go.Abs Go.Abs.Try

theorem walk_loop_end (nat : Natives) (all : List Expr) (H : Nat → Option Blk) (nx : Nat) {R : Type} (k : Ex → St → Option R) :
    loopK (callI nat tbl) [3, 38, 39, 40] g27_l0 ⟨mkEnv [(3, .val (.ref 3 0)), (38, .val (.list .no (all.map Expr.cells))), (39, .val (.int .i64 all.length)), (40, .val (.int .i64 all.length))], H, nx, 0⟩ (blockK 0 (limK [] k)) = k .normal ⟨mkEnv [], H, nx, 0⟩ := by
  rw [loopK_eq]
  conv => lhs; arg 2; unfold g27_l0
  simp

theorem walk_loop_round (nat : Natives) (all : List Expr) (x : Expr) (i : Nat) (hi : i < all.length) (hx : all[i]? = some x) (hr : all.length ≤ room) (H H' : Nat → Option Blk) (nx nx' : Nat) (h3 : H 3 = some (.cells [.fn 27 [.ref 2 0, .ref 0 0, .ref 3 0]]))
    (hc : callI nat tbl 27 [.agg x.cells, .ref 2 0, .ref 0 0, .ref 3 0] ⟨H, nx, 0⟩ = some (.tup [], ⟨H', nx', 0⟩)) {R : Type} (k : Ex → St → Option R) :
    loopK (callI nat tbl) [3, 38, 39, 40] g27_l0 ⟨mkEnv [(3, .val (.ref 3 0)), (38, .val (.list .no (all.map Expr.cells))), (39, .val (.int .i64 all.length)), (40, .val (.int .i64 i))], H, nx, 0⟩ (blockK 0 (limK [] k)) =
      loopK (callI nat tbl) [3, 38, 39, 40] g27_l0 ⟨mkEnv [(3, .val (.ref 3 0)), (38, .val (.list .no (all.map Expr.cells))), (39, .val (.int .i64 all.length)), (40, .val (.int .i64 (i + 1 : Nat)))], H', nx', 0⟩ (blockK 0 (limK [] k)) := by
  have hroom : room = 4294967296 := rfl
  rw [loopK_eq]
  conv => lhs; arg 2; unfold g27_l0
  have hxi : all[i] = x := (List.getElem?_eq_some_iff.1 hx).2
  have hw : IntKind.i64.wrap ((i : Int) + 1) = (i : Int) + 1 := wrap_i64 _ (by omega) (by omega)
  simp [hi, idx_nat, hxi, h3, masked_nil, hc, hw]

theorem call27 (nat : Natives) (x : Expr) (H H' : Nat → Option Blk) (nx nx' : Nat)
    (h : ∀ (R : Type) (k : Ex → St → Option R), execK (callI nat tbl) g27.body ⟨mkEnv (argEnv 0 [.agg x.cells, .ref 2 0, .ref 0 0, .ref 3 0]), H, nx, 0⟩ k = k .normal ⟨mkEnv [], H', nx', 0⟩) :
    callI nat tbl 27 [.agg x.cells, .ref 2 0, .ref 0 0, .ref 3 0] ⟨H, nx, 0⟩ = some (.tup [], ⟨H', nx', 0⟩) := by
  refine call2 (m := 0) (f := 27) (body := g27.body) (res := []) rfl ?_
  rw [runI_K]
  show execK (callI nat tbl) g27.body _ _ = _
  rw [h]
  rfl

theorem stepR_len (k : Int) (n s : Str) (out : List Read) : (stepR k n s out).length ≤ out.length + 1 := by
  unfold stepR; split <;> simp
mutual
theorem walkR_len : ∀ (x : Expr) (out : List Read), (walkR x out).length ≤ out.length + nodes x
  | ⟨k, o, n, s, v, sc, p, xs⟩, out => by
    have := walkL_len xs (stepR k n s out)
    have := stepR_len k n s out
    simp only [walkR, nodes]; omega
theorem walkL_len : ∀ (xs : List Expr) (out : List Read), (walkL xs out).length ≤ out.length + nodesL xs
  | [], out => by simp [walkL]
  | x :: xs, out => by
    have := walkL_len xs (walkR x out)
    have := walkR_len x out
    simp only [walkL, nodesL]; omega
end
theorem nodes_pos (x : Expr) : 1 ≤ nodes x := by cases x; simp [nodes]
theorem length_nodesL : ∀ xs : List Expr, xs.length ≤ nodesL xs
  | [] => by simp
  | x :: xs => by have := length_nodesL xs; have := nodes_pos x; simp only [List.length_cons, nodesL]; omega

mutual
theorem walk_ok (nat : Natives) : ∀ (x : Expr) (out : List Read) (H : Nat → Option Blk) (nx : Nat), WInv H nx out → out.length + nodes x ≤ room →
    ∃ H' nx', WInv H' nx' (walkR x out) ∧ callI nat tbl 27 [.agg x.cells, .ref 2 0, .ref 0 0, .ref 3 0] ⟨H, nx, 0⟩ = some (.tup [], ⟨H', nx', 0⟩)
  | ⟨k, o, n, s, v, sc, p, xs⟩, out, H, nx, hi, hn => by
    have hpos := nodes_pos ⟨k, o, n, s, v, sc, p, xs⟩
    obtain ⟨H1, nx1, hi1, hh⟩ := walk_head nat ⟨k, o, n, s, v, sc, p, xs⟩ out H nx hi (by omega)
    have hl := stepR_len k n s out
    simp only [nodes] at hn
    obtain ⟨H2, nx2, hi2, hb⟩ := walk_loop nat xs [] (stepR k n s out) H1 nx1 hi1 (by simp only [List.nil_append]; have := length_nodesL xs; omega) (by omega)
    refine ⟨H2, nx2, by simpa only [walkR] using hi2, call27 nat _ H H2 nx nx2 fun R K => ?_⟩
    rw [hh]
    exact hb R K
theorem walk_loop (nat : Natives) : ∀ (xs pre : List Expr) (out : List Read) (H : Nat → Option Blk) (nx : Nat), WInv H nx out → (pre ++ xs).length ≤ room → out.length + nodesL xs ≤ room →
    ∃ H' nx', WInv H' nx' (walkL xs out) ∧ ∀ (R : Type) (k : Ex → St → Option R),
      loopK (callI nat tbl) [3, 38, 39, 40] g27_l0 ⟨mkEnv [(3, .val (.ref 3 0)), (38, .val (.list .no ((pre ++ xs).map Expr.cells))), (39, .val (.int .i64 (pre ++ xs).length)), (40, .val (.int .i64 pre.length))], H, nx, 0⟩ (blockK 0 (limK [] k)) = k .normal ⟨mkEnv [], H', nx', 0⟩
  | [], pre, out, H, nx, hi, hr, hn => by
    refine ⟨H, nx, hi, fun R k => ?_⟩
    simp only [List.append_nil]
    exact walk_loop_end nat pre H nx k
  | x :: xs, pre, out, H, nx, hi, hr, hn => by
    simp only [nodesL] at hn
    obtain ⟨H1, nx1, hi1, h1⟩ := walk_ok nat x out H nx hi (by omega)
    have hlen := walkR_len x out
    obtain ⟨H2, nx2, hi2, h2⟩ := walk_loop nat xs (pre ++ [x]) (walkR x out) H1 nx1 hi1 (by simpa using hr) (by omega)
    refine ⟨H2, nx2, by simpa only [walkL] using hi2, fun R k => ?_⟩
    rw [walk_loop_round nat (pre ++ x :: xs) x pre.length (by simp) (by simp) hr H H1 nx nx1 hi.h3 h1 k]
    have := h2 R k
    simpa using this
end
end Go.Abs.M
