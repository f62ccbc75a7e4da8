/-
  WHAT AN EXPRESSION READS: the document's Reads, whole.
-/
import Derived.Test.YtagmcgbbgjkdbaaRd10d
set_option linter.all false
namespace Go.Abs.M
open Go Go.Abs Go.Abs.Try

theorem addR_len (out : List Read) (r : Read) : (addR out r).length ≤ out.length + 1 := by unfold addR; split <;> simp
theorem mergeR_len : ∀ (l out : List Read), (mergeR out l).length ≤ out.length + l.length
  | [], out => by simp [mergeR]
  | r :: l, out => by
    have := mergeR_len l (addR out r)
    have := addR_len out r
    simp only [mergeR, List.foldl_cons, List.length_cons] at *
    omega
theorem ownR_len (k : Int) (n s : Str) : (ownR k n s).length ≤ 1 := by
  unfold ownR
  split
  · simp
  · split <;> simp
mutual
theorem refR_len : ∀ x : Expr, (refR x).length ≤ nodes x
  | ⟨k, o, n, s, v, sc, p, xs⟩ => by
    have := refL_len xs (ownR k n s)
    have := ownR_len k n s
    simp only [refR, nodes]; omega
theorem refL_len : ∀ (xs : List Expr) (out : List Read), (refL xs out).length ≤ out.length + nodesL xs
  | [], out => by simp [refL]
  | x :: xs, out => by
    have := refL_len xs (mergeR out (refR x))
    have := mergeR_len (refR x) out
    have := refR_len x
    simp only [refL, nodesL]; omega
end

section
variable (nat : Natives) (x : Expr) (l : List Read) (i4 : Int) (nx : Nat)

abbrev env1 (out : List Read) (j : Nat) : List (Nat × Slot) := [(1, .var x.cells), (3, .val (.list (.own 0) (out.map Read.cells))), (4, .val (.int .i64 i4)), (5, .val (.list .no (l.map Read.cells))), (6, .val (.int .i64 j))]

theorem ref_l1_end {R : Type} (k : Ex → St → Option R) (out : List Read) (H : Nat → Option Blk) :
    loopK (callI nat tbl) [1, 3, 4, 5, 6] g17_l1 ⟨mkEnv (env1 x l i4 out l.length), H, nx, 0⟩ (blockK 2 (limK [1, 3, 4] k)) =
      k .normal ⟨mkEnv [(1, .var x.cells), (3, .val (.list (.own 0) (out.map Read.cells))), (4, .val (.int .i64 i4))], H, nx, 0⟩ := by
  rw [loopK_eq]
  conv => lhs; arg 2; unfold g17_l1
  simp

theorem ref_l1_round {R : Type} (k : Ex → St → Option R) (out : List Read) (H : Nat → Option Blk) (j : Nat) (hj : j < l.length) (r : Read) (hr : l[j] = r) (hlr : l.length ≤ room) (ho : out.length + 1 ≤ room) (hH : H 0 = some (.perm 2 out.length)) :
    loopK (callI nat tbl) [1, 3, 4, 5, 6] g17_l1 ⟨mkEnv (env1 x l i4 out j), H, nx, 0⟩ (blockK 2 (limK [1, 3, 4] k)) =
      loopK (callI nat tbl) [1, 3, 4, 5, 6] g17_l1 ⟨mkEnv (env1 x l i4 (addR out r) (j + 1)), if r ∈ out then H else upd H 0 (some (.perm 2 (out.length + 1))), nx, 0⟩ (blockK 2 (limK [1, 3, 4] k)) := by
  have hroom : room = 4294967296 := rfl
  have hw : IntKind.i64.wrap ((j : Int) + 1) = (j : Int) + 1 := wrap_i64 _ (by omega) (by omega)
  have h0 : ∀ (R : Type) (k : Ex → St → Option R), _ := fun R k => ref_l0 nat x out l i4 j H nx k (by omega) r hj hr out.length 0 (by omega)
  simp [env0] at h0
  rw [loopK_eq]
  conv => lhs; arg 2; unfold g17_l1
  by_cases hm : r ∈ out
  · simp [env1, h0, hm, hw, addR, hj]
  · have app : ∀ (md id nx' : Nat) (E : Nat → Slot) (k : Slot → St → Option R), appK md 2 id H nx' 0 E (.list (.own 0) (out.map Read.cells)) [r.cells] k = k (.val (.list (.own 0) (out.map Read.cells ++ [r.cells]))) ⟨E, upd H 0 (some (.perm 2 (out.length + 1))), nx', 0⟩ := by
      intro md id nx' E k
      have := appK_own (E := E) (nx := nx') (k := k) md 2 id 0 (out.map Read.cells) r.cells (by simpa using hH) (by simpa using ho) (headLen_map Read.cells_length out) (by simp) (by simpa [storable] using Read.storable r) (Nat.zero_le 0)
      simpa using this
    simp [env1, h0, hm, hw, addR, hj, hr, idx_nat, fillV, app, List.take_of_length_le]

theorem ref_l1 (hlr : l.length ≤ room) : ∀ (n j : Nat) (out : List Read) (H : Nat → Option Blk), j + n = l.length → out.length + n ≤ room → H 0 = some (.perm 2 out.length) →
    ∃ H', H' 0 = some (.perm 2 (mergeR out (l.drop j)).length) ∧ ∀ (R : Type) (k : Ex → St → Option R), loopK (callI nat tbl) [1, 3, 4, 5, 6] g17_l1 ⟨mkEnv (env1 x l i4 out j), H, nx, 0⟩ (blockK 2 (limK [1, 3, 4] k)) =
      k .normal ⟨mkEnv [(1, .var x.cells), (3, .val (.list (.own 0) ((mergeR out (l.drop j)).map Read.cells))), (4, .val (.int .i64 i4))], H', nx, 0⟩
  | 0, j, out, H, hn, ho, hH => by
    have : j = l.length := by omega
    subst this
    simp only [List.drop_length, mergeR, List.foldl_nil]
    exact ⟨H, hH, fun R k => ref_l1_end nat x l i4 nx k out H⟩
  | n + 1, j, out, H, hn, ho, hH => by
    have hj : j < l.length := by omega
    have hlen := addR_len out l[j]
    obtain ⟨H', h1, h2⟩ := ref_l1 hlr n (j + 1) (addR out l[j]) (if l[j] ∈ out then H else upd H 0 (some (.perm 2 (out.length + 1)))) (by omega) (by omega) (by
      unfold addR
      split
      · exact hH
      · simp)
    have hd : l.drop j = l[j] :: l.drop (j + 1) := List.drop_eq_getElem_cons hj
    rw [hd]
    simp only [mergeR, List.foldl_cons] at h1 h2 ⊢
    refine ⟨H', h1, fun R k => ?_⟩
    rw [ref_l1_round nat x l i4 nx k out H j hj _ rfl hlr (by omega) hH]
    exact h2 R k
end

section
variable (nat : Natives) (x : Expr) (nx : Nat)
abbrev env2 (out : List Read) (i : Nat) : List (Nat × Slot) := [(1, .var x.cells), (3, .val (.list (.own 0) (out.map Read.cells))), (4, .val (.int .i64 i))]

theorem ref_l2_end {R : Type} (k : Ex → St → Option R) (out : List Read) (H : Nat → Option Blk) :
    loopK (callI nat tbl) [1, 3, 4] g17_l2 ⟨mkEnv (env2 x out x.args.length), H, nx, 0⟩ (blockK 0 (limK [3] k)) = k .normal ⟨mkEnv [(3, .val (.list (.own 0) (out.map Read.cells)))], H, nx, 0⟩ := by
  rw [loopK_eq]
  conv => lhs; arg 2; unfold g17_l2
  simp [g_args]

theorem ref_l2_round (out : List Read) (H : Nat → Option Blk) (i : Nat) (hi : i < x.args.length) (y : Expr) (hy : x.args[i] = y) (hr : x.args.length ≤ room) (l : List Read) (hc : ∀ h, callI nat tbl 17 [.agg y.cells] h = some (.list .no (l.map Read.cells), h))
    (hl : l.length ≤ room) (ho : out.length + l.length ≤ room) (hH : H 0 = some (.perm 2 out.length)) :
    ∃ H', H' 0 = some (.perm 2 (mergeR out l).length) ∧ ∀ (R : Type) (k : Ex → St → Option R), loopK (callI nat tbl) [1, 3, 4] g17_l2 ⟨mkEnv (env2 x out i), H, nx, 0⟩ (blockK 0 (limK [3] k)) =
      loopK (callI nat tbl) [1, 3, 4] g17_l2 ⟨mkEnv (env2 x (mergeR out l) (i + 1)), H', nx, 0⟩ (blockK 0 (limK [3] k)) := by
  have hroom : room = 4294967296 := rfl
  have hw : IntKind.i64.wrap ((i : Int) + 1) = (i : Int) + 1 := wrap_i64 _ (by omega) (by omega)
  obtain ⟨H', h1, h2⟩ := ref_l1 nat x l i nx hl l.length 0 out H (by omega) (by omega) hH
  simp only [List.drop_zero] at h1 h2
  refine ⟨H', h1, fun R k => ?_⟩
  simp [env1] at h2
  rw [loopK_eq]
  conv => lhs; arg 2; unfold g17_l2
  simp [env2, g_args, hi, hy, idx_nat, masked_nil, hc, h2, hw]
end

theorem ref_head (nat : Natives) (x : Expr) : ∃ H, H 0 = some (.perm 2 (ownR x.kind x.name x.sect).length) ∧ ∀ (R : Type) (k : Ex → St → Option R),
    execK (callI nat tbl) g17.body ⟨mkEnv (argEnv 0 [.agg x.cells]), fun _ => none, 0, 0⟩ k =
      loopK (callI nat tbl) [1, 3, 4] g17_l2 ⟨mkEnv (env2 x (ownR x.kind x.name x.sect) 0), H, 1, 0⟩ (blockK 0 (limK [3] (nextK k fun s => execK (callI nat tbl) (.seq (.reg false 0 [⟨some 75, none, 0, [], [], .mov (.t 3)⟩, ⟨some 2, none, 0, [], [], .mov (.t 75)⟩]) .ret) s k))) := by
  have app : ∀ (R : Type) (md id nx' : Nat) (H : Nat → Option Blk) (hH : H 0 = some (.perm 2 0)) (E : Nat → Slot) (e : List V) (he : e.length = 2) (ho : e.all V.one = true) (k : Slot → St → Option R), appK md 2 id H nx' 0 E (.list (.own 0) []) [e] k = k (.val (.list (.own 0) [e])) ⟨E, upd H 0 (some (.perm 2 1)), nx', 0⟩ := by
    intro R md id nx' H hH E e he ho k
    have hroom : room = 4294967296 := rfl
    have := appK_own (E := E) (nx := nx') (k := k) md 2 id 0 [] e (by simpa using hH) (by simp [hroom]) rfl he ho (Nat.zero_le 0)
    simpa using this
  unfold g17
  by_cases k2 : x.kind = 2
  · refine ⟨upd (upd (fun _ => none) 0 (some (.perm 2 0))) 0 (some (.perm 2 1)), by simp [ownR, k2], fun R k => ?_⟩
    simp [argEnv, g_kind, g_name, g_sect, fillV, setCells, k2, ownR, app, Read.cells, env2]
  · by_cases k10 : x.kind = 10
    · refine ⟨upd (upd (fun _ => none) 0 (some (.perm 2 0))) 0 (some (.perm 2 1)), by simp [ownR, k10], fun R k => ?_⟩
      simp [argEnv, g_kind, g_name, g_sect, fillV, setCells, k10, ownR, app, Read.cells, env2]
    · refine ⟨upd (fun _ => none) 0 (some (.perm 2 0)), by simp [ownR, k2, k10], fun R k => ?_⟩
      simp [argEnv, g_kind, fillV, setCells, k2, k10, ownR, env2]

mutual
theorem call17 (nat : Natives) : ∀ (x : Expr), nodes x ≤ room → ∀ h, callI nat tbl 17 [.agg x.cells] h = some (.list .no ((refR x).map Read.cells), h)
  | ⟨kd, o, n, s, v, sc, p, xs⟩, hn, h => by
    obtain ⟨H, hH, hh⟩ := ref_head nat ⟨kd, o, n, s, v, sc, p, xs⟩
    have hpos := ownR_len kd n s
    simp only [nodes] at hn
    obtain ⟨H', h1⟩ := ref_loop nat ⟨kd, o, n, s, v, sc, p, xs⟩ xs [] rfl (ownR kd n s) H (by simp only [List.nil_append]; have := length_nodesL xs; omega) (by omega) hH
    refine call0 (body := g17.body) (res := g17.results) (args' := [.agg (Expr.cells ⟨kd, o, n, s, v, sc, p, xs⟩)]) (u := .list (.own 0) ((refL xs (ownR kd n s)).map Read.cells)) (h' := ⟨H', 1, 0⟩) rfl (by simp [sealL, sealV]) ?_ ?_
    · rw [runI_K]
      show execK (callI nat tbl) g17.body _ _ = _
      rw [hh]
      have := h1 (V × HS)
      simp only [List.length_nil] at this
      rw [this]
      simp [g17, readRes, Opd.eval, packRes]
    · simp [sealV, sealReads, sealP, refR]
theorem ref_loop (nat : Natives) (x : Expr) : ∀ (xs pre : List Expr), x.args = pre ++ xs → ∀ (out : List Read) (H : Nat → Option Blk), (pre ++ xs).length ≤ room → out.length + nodesL xs ≤ room → H 0 = some (.perm 2 out.length) →
    ∃ H', ∀ (R : Type) (k : Ex → St → Option R), loopK (callI nat tbl) [1, 3, 4] g17_l2 ⟨mkEnv (env2 x out pre.length), H, 1, 0⟩ (blockK 0 (limK [3] k)) = k .normal ⟨mkEnv [(3, .val (.list (.own 0) ((refL xs out).map Read.cells)))], H', 1, 0⟩
  | [], pre, hx, out, H, hr, hn, hH => by
    refine ⟨H, fun R k => ?_⟩
    have : pre.length = x.args.length := by simp [hx]
    rw [this, ref_l2_end]
    rfl
  | y :: xs, pre, hx, out, H, hr, hn, hH => by
    simp only [nodesL] at hn
    have hl := refR_len y
    have hlt : pre.length < x.args.length := by rw [hx]; simp
    obtain ⟨H1, h1, h2⟩ := ref_l2_round nat x 1 out H pre.length hlt y (by simp [hx]) (by rw [hx]; exact hr) (refR y) (call17 nat y (by omega)) (by omega) (by omega) hH
    have hm := mergeR_len (refR y) out
    obtain ⟨H2, h3⟩ := ref_loop nat x xs (pre ++ [y]) (by simpa using hx) (mergeR out (refR y)) H1 (by simpa using hr) (by omega) h1
    refine ⟨H2, fun R k => ?_⟩
    rw [h2]
    have := h3 R k
    simpa [refL] using this
end
end Go.Abs.M
