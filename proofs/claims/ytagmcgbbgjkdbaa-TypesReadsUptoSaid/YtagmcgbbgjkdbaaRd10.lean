/-
  WHAT AN EXPRESSION READS: the program's way (a closure, a map of what was seen) as a plain function.
-/
import Derived.Test.YtagmcgbbgjkdbaaIR
import Derived.Test.YtagmcgbbgjkdbaaTy0
set_option linter.all false
namespace Go.Abs.M
open Go Go.Abs Go.Abs.Try

def readOf (k : Int) (n s : Str) : Read := ⟨if k = 10 then s else [], n⟩
def stepR (k : Int) (n s : Str) (out : List Read) : List Read := if (k = 2 ∨ k = 10) ∧ readOf k n s ∉ out then out ++ [readOf k n s] else out
mutual
def walkR : Expr → List Read → List Read
  | ⟨k, _, n, s, _, _, _, xs⟩, out => walkL xs (stepR k n s out)
def walkL : List Expr → List Read → List Read
  | [], out => out
  | x :: xs, out => walkL xs (walkR x out)
end
mutual
def nodes : Expr → Nat
  | ⟨_, _, _, _, _, _, _, xs⟩ => nodesL xs + 1
def nodesL : List Expr → Nat
  | [] => 0
  | x :: xs => nodes x + nodesL xs
end

theorem key_eq (r q : Read) : keyEq (.agg [.s, .s]) (.agg r.cells) (.agg q.cells) = some (decide (r = q)) := by
  obtain ⟨a, b⟩ := r
  obtain ⟨c, d⟩ := q
  simp only [keyEq, Read.cells, eqCells, eqK, Option.bind_some, Read.mk.injEq, Option.some.injEq]
  by_cases h1 : a = c <;> by_cases h2 : b = d <;> simp [h1, h2]
theorem key_ok (r : Read) : keyOk (.agg [.s, .s]) (.agg r.cells) = true := by simp [keyOk, key_eq]

/-- What was seen, as the map has it. -/
def seenM (out : List Read) : List (V × V) := out.map fun r => (.agg r.cells, .bool true)

theorem seen_find (r : Read) : ∀ out, mapFind (.agg [.s, .s]) (.agg r.cells) (seenM out) = some (if r ∈ out then some (.bool true) else none)
  | [] => rfl
  | q :: out => by
    have ih := seen_find r out
    simp only [seenM] at ih
    simp only [seenM, List.map_cons, mapFind, key_eq, Option.bind_some, decide_eq_true_eq, ih, List.mem_cons]
    by_cases h : r = q
    · simp [h]
    · simp [h]
theorem seen_set (r : Read) : ∀ out, r ∉ out → mapSet (.agg [.s, .s]) (.agg r.cells) (.bool true) (seenM out) = some (seenM (out ++ [r]))
  | [], _ => rfl
  | q :: out, hm => by
    have ih := seen_set r out (fun h => hm (List.mem_cons_of_mem _ h))
    simp only [seenM] at ih
    have h : ¬ r = q := fun h => hm (by simp [h])
    simp only [seenM, List.map_cons, mapSet, key_eq, Option.bind_some, decide_eq_true_eq, h, if_false, ih, List.cons_append]

structure WInv (H : Nat → Option Blk) (nx : Nat) (out : List Read) : Prop where
  h3 : H 3 = some (.cells [.fn 27 [.ref 2 0, .ref 0 0, .ref 3 0]])
  h2 : H 2 = some (.cells [.mapr 1])
  h1 : H 1 = some (.map (seenM out))
  h0 : (out = [] ∧ H 0 = some (.cells [.list .full []])) ∨ ∃ b, 4 ≤ b ∧ b < nx ∧ H 0 = some (.cells [.list (.own b) (out.map Read.cells)]) ∧ H b = some (.perm 2 out.length)
  nx : 4 ≤ nx

theorem g_kind (x : Expr) : getCells x.cells 0 1 = some [.int .i64 x.kind] := by rw [Expr.cells_eq]; rfl
theorem g_name (x : Expr) : getCells x.cells 2 1 = some [.str x.name] := by rw [Expr.cells_eq]; rfl
theorem g_sect (x : Expr) : getCells x.cells 3 1 = some [.str x.sect] := by rw [Expr.cells_eq]; rfl
theorem g_args (x : Expr) : getCells x.cells 16 1 = some [.list .no (x.args.map Expr.cells)] := by rw [Expr.cells_eq]; rfl

theorem tbl27 : tbl 27 = some g27 := rfl

@[simp] theorem getCells_one (v : V) : getCells [v] 0 1 = some [v] := _root_.id rfl
theorem lookR_map {H : Nat → Option Blk} {b : Nat} {es : List (V × V)} (h : H b = some (.map es)) (ks : KT) (k : V) : lookR H ks (.mapr b) k = mapFind ks k es := by simp only [lookR, h]

theorem readOf2 (n s : Str) : (readOf 2 n s).cells = [.str [], .str n] := rfl
theorem readOf10 (n s : Str) : (readOf 10 n s).cells = [.str s, .str n] := rfl

theorem WInv.push {H : Nat → Option Blk} {nx nx' : Nat} {out : List Read} (hi : WInv H nx out) (r : Read) (b : Nat) (hb : 4 ≤ b) (hbn : b < nx') (hx : nx ≤ nx') {H' : Nat → Option Blk}
    (e3 : H' 3 = H 3) (e2 : H' 2 = H 2) (e1 : H' 1 = some (.map (seenM (out ++ [r])))) (e0 : H' 0 = some (.cells [.list (.own b) ((out ++ [r]).map Read.cells)])) (eb : H' b = some (.perm 2 (out ++ [r]).length)) : WInv H' nx' (out ++ [r]) :=
  ⟨e3.trans hi.h3, e2.trans hi.h2, e1, .inr ⟨b, hb, hbn, e0, eb⟩, Nat.le_trans hi.nx hx⟩

/-- What a call of walk does before it goes through Args. -/
theorem walk_head (nat : Natives) (x : Expr) (out : List Read) (H : Nat → Option Blk) (nx : Nat) (hi : WInv H nx out) (hn : out.length + 1 ≤ room) :
    ∃ H' nx', WInv H' nx' (stepR x.kind x.name x.sect out) ∧ ∀ (R : Type) (k : Ex → St → Option R), execK (callI nat tbl) g27.body ⟨mkEnv (argEnv 0 [.agg x.cells, .ref 2 0, .ref 0 0, .ref 3 0]), H, nx, 0⟩ k =
      loopK (callI nat tbl) [3, 38, 39, 40] g27_l0 ⟨mkEnv [(3, .val (.ref 3 0)), (38, .val (.list .no (x.args.map Expr.cells))), (39, .val (.int .i64 x.args.length)), (40, .val (.int .i64 0))], H', nx', 0⟩ (blockK 0 (limK [] k)) := by
  have hi' := hi
  obtain ⟨h3, h2, h1, h0, hx⟩ := hi
  have hf := seen_find (readOf x.kind x.name x.sect) out
  have hok := key_ok (readOf x.kind x.name x.sect)
  have hs := seen_set (readOf x.kind x.name x.sect) out
  unfold g27
  by_cases hk : x.kind = 2 ∨ x.kind = 10
  · by_cases hm : readOf x.kind x.name x.sect ∈ out
    · refine ⟨H, nx, ⟨h3, h2, by simpa [stepR, hm] using h1, by simpa [stepR, hm] using h0, hx⟩, fun R k => ?_⟩
      rw [if_pos hm] at hf
      rcases hk with hk | hk
      all_goals
        rw [hk] at hf hok
        simp only [readOf2, readOf10] at hf hok
        simp [argEnv, g_kind, g_name, g_sect, g_args, fillV, setCells, hk, h2, lookR_map h1, hf, hok]
    · have hs := hs hm
      rw [if_neg hm] at hf
      have hstep : stepR x.kind x.name x.sect out = out ++ [readOf x.kind x.name x.sect] := by simp [stepR, hk, hm]
      rw [hstep]
      rcases h0 with ⟨rfl, h0⟩ | ⟨b, hb4, hbn, h0, hb⟩
      · refine ⟨upd (upd (upd H 1 (some (.map (seenM ([] ++ [readOf x.kind x.name x.sect]))))) nx (some (.perm 2 1))) 0 (some (.cells [.list (.own nx) [(readOf x.kind x.name x.sect).cells]])), nx + 1, ?_, fun R k => ?_⟩
        · have n3 : ¬ 3 = nx := by omega
          have n2 : ¬ 2 = nx := by omega
          have n1 : ¬ 1 = nx := by omega
          have n0 : ¬ nx = 0 := by omega
          exact hi'.push _ nx hx (Nat.lt_succ_self _) (Nat.le_succ _) (by simp [n3]) (by simp [n2]) (by simp [n1]) (by simp) (by simp [n0])
        · have n0 : ¬ 0 = nx := by omega
          have n2 : ¬ 2 = nx := by omega
          rcases hk with hk | hk
          all_goals
            rw [hk] at hf hok hs ⊢
            simp only [readOf2, readOf10] at hf hok hs ⊢
            simp [argEnv, g_kind, g_name, g_sect, g_args, fillV, setCells, hk, h2, lookR_map h1, hf, hok, mapK_mapr _ _ _ _ h1, hs, h0, n0]
      · refine ⟨upd (upd (upd H 1 (some (.map (seenM (out ++ [readOf x.kind x.name x.sect]))))) b (some (.perm 2 (out.length + 1)))) 0 (some (.cells [.list (.own b) (out.map Read.cells ++ [(readOf x.kind x.name x.sect).cells])])), nx + 1, ?_, fun R k => ?_⟩
        · have n3 : ¬ 3 = b := by omega
          have n2 : ¬ 2 = b := by omega
          have n1 : ¬ 1 = b := by omega
          have n0 : ¬ b = 0 := by omega
          exact hi'.push _ b hb4 (by omega) (by omega) (by simp [n3]) (by simp [n2]) (by simp [n1]) (by simp) (by simp [n0])
        · have n0 : ¬ 0 = b := by omega
          have n1 : ¬ b = 1 := by omega
          have app : ∀ (H' : Nat → Option Blk) (nx' : Nat) (E : Nat → Slot) (e : List V) (he : e.length = 2) (ho : e.all V.one = true) (hH : H' b = some (.perm 2 out.length)) (k : Slot → St → Option R),
              appK 0 2 nx H' nx' 0 E (.list (.own b) (out.map Read.cells)) [e] k = k (.val (.list (.own b) (out.map Read.cells ++ [e]))) ⟨E, upd H' b (some (.perm 2 (out.length + 1))), nx', 0⟩ := by
            intro H' nx' E e he ho hH k
            have := appK_own (E := E) (nx := nx') (k := k) 0 2 nx b (out.map Read.cells) e (by simpa using hH) (by simpa using hn) (headLen_map Read.cells_length out) he ho (Nat.zero_le b)
            simpa using this
          rcases hk with hk | hk
          all_goals
            rw [hk] at hf hok hs ⊢
            simp only [readOf2, readOf10] at hf hok hs ⊢
            simp [argEnv, g_kind, g_name, g_sect, g_args, fillV, setCells, hk, h2, lookR_map h1, hf, hok, mapK_mapr _ _ _ _ h1, hs, h0, n0, app, n1, hb]
  · have hstep : stepR x.kind x.name x.sect out = out := by simp [stepR, hk]
    refine ⟨H, nx, by rw [hstep]; exact hi', fun R k => ?_⟩
    have k2 : ¬ x.kind = 2 := fun h => hk (.inl h)
    have k10 : ¬ x.kind = 10 := fun h => hk (.inr h)
    simp [argEnv, g_kind, g_name, g_sect, g_args, fillV, setCells, k2, k10]
end Go.Abs.M
