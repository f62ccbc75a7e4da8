/-
  TypesReads: whatever the expression (of bulk at most 1048576): the law answers true, and the expression reads as it did.
-/
import Derived.Test.YtagmcgbbgjkdbaaRd10f
import Derived.Test.YtagmcgbbgjkdbaaDat0
import Derived.Test.YtagmcgbbgjkdbaaLaw0
import Derived.Test.YtagmcgbbgjkdbaaNatC
import Derived.Test.YtagmcgbbgjkdbaaTab
import Derived.KernelRfl
set_option linter.all false
namespace Go.Proofs.Ytagmcgbbgjkdbaa.claimR
open Go.ChangeShapes Go.WideShapes Go.ChangeAt Go.RowKit Go.Abs

theorem own : ownKnob Try.prog.godebug = none := by kernel_rfl
theorem laidOut : laidOutB Try.prog = true := by kernel_rfl

theorem natOK : NatOK Try.prog Go.Abs.Try.nat := nat_ok (l := Go.Abs.Try.nl) (by
  unfold Go.Abs.Try.nl
  intro p hp
  simp only [List.mem_cons, List.not_mem_nil, or_false] at hp
  rcases hp with rfl | rfl | rfl
  · exact ⟨_, Try.func10, by kernel_rfl⟩
  · exact ⟨_, Try.func11, by kernel_rfl⟩
  · exact ⟨_, Try.func13, by kernel_rfl⟩)

theorem mixed : Try.prog.follows .mixedOrders = true := by kernel_rfl
theorem table (k : Nat) : TableOK Try.prog (callN Go.Abs.Try.nat Go.Abs.Try.tbl k) := table_sound mixed natOK Go.Abs.Try.tab_ok k

/-- The types that an expression is made of. -/
def types : List TypeId := [3, 4, 9, 30, 31, 32, 33, 34, 35, 36, 37, 38, 39]
theorem plain : plainOK Try.prog types = true := by kernel_rfl

noncomputable def api : ApiT Try.prog where
  int := 3
  bool := 4
  str := 9
  u64 := 30
  nat := 32
  dec := 34
  val := 36
  typ := 51
  expr := 39
  exprs := 37
  hint := Try.underlying3
  hbool := Try.underlying4
  hstr := Try.underlying9
  hu64 := Try.underlying30
  hnat := Try.underlying32
  fdec := _
  hdec := Try.underlying34
  tdec := rfl
  fval := _
  hval := Try.underlying36
  tval := rfl
  ftyp := _
  htyp := Try.underlying51
  ttyp := rfl
  fexpr := _
  hexpr := Try.underlying39
  texpr := rfl
  hexprs := Try.underlying37

mutual
theorem nodes_sz : ∀ x : M.Expr, M.nodes x ≤ szL x.cells
  | ⟨k, o, n, s, v, sc, p, xs⟩ => by
    have := nodes_szL xs
    simp only [M.nodes, M.Expr.cells, szL, szV]
    omega
theorem nodes_szL : ∀ xs : List M.Expr, M.nodesL xs ≤ szLL (M.Expr.cellsL xs)
  | [] => by simp [M.nodesL, M.Expr.cellsL, szLL]
  | x :: xs => by
    have := nodes_sz x
    have := nodes_szL xs
    simp only [M.nodesL, M.Expr.cellsL, szLL]
    omega
end

theorem bound {H : Type} (ds : List (DataW H)) (h : Rows.uptoSmall H (ds ++ []) = true) : Rows.uptoBulkAll ds ≤ 1048576 := by
  rw [List.append_nil] at h
  unfold Rows.uptoSmall at h
  exact of_decide_eq_true h

set_option maxRecDepth 100000 in
theorem contract (H : Type) (enc : TypeId × Value → H) (W : World) (base : Nat) (args : Array Value) (ds gs : List (DataW H)) (before : List MemPlace)
    (hval : ∀ (j : Nat) t v, Try.f4.params[j]? = some t → args[j]? = some v → Value.okWide Try.prog W .any base t v)
    (hW : DataW.Whole enc Try.prog Try.f4.params.toList Rows.typesReadsSpec.vars false W args.toList ds gs before) (hk : Rows.uptoSmall H (ds ++ gs) = true) :
    Calls Try.prog 4 args W fun e W' => ∃ v, e = .returned v ∧ Rows.typesReadsSpec.post enc Try.prog Try.f4 false true false false W args v W' := by
  have hW' := hW
  obtain ⟨p, q, hA0, hV, rfl, hfz, hnd⟩ := hW
  have hA : DataW.TrodAll enc Try.prog W 0 (fun _ => true) true Try.f4.params.toList args.toList ds p := hA0
  rw [Try.params4] at hA hval
  obtain ⟨v0, vs0, d0, ds0, p0, q0, hargs, rfl, rfl, h0, r0⟩ := trodAll_cons hA
  obtain ⟨rfl, rfl, rfl⟩ := trodAll_nil r0
  obtain rfl : args = #[v0] := by cases args; simp_all
  obtain ⟨rfl, rfl⟩ := trodVars_none hV
  obtain ⟨x, hx⟩ := rd_expr api (RD.of h0)
  obtain ⟨cs, rfl, _⟩ := okWide_struct Try.underlying39 (hval 0 39 v0 rfl rfl)
  have hr : Reps (imm0 W) locs0 x.cells cs.toList := by
    have := rep_arg (L := locs0) plain (by decide) h0
    rw [hx] at this
    exact this
  have hreps : Reps (imm0 W) locs0 [V.agg x.cells] [Value.agg cs] := .one (by
    have := Rep.agg' hr
    simpa using this)
  have hn : M.nodes x ≤ room := by
    have h1 := bound (H := H) (d0 :: []) hk
    simp only [Rows.uptoBulkAll] at h1
    have h2 := sz_vOf d0
    rw [hx] at h2
    have h3 := nodes_sz x
    have : room = 4294967296 := rfl
    omega
  refine (law_calls table hreps (M.typesReads x hn _)).mono fun e W' ⟨he, hb⟩ => ⟨_, he, ?_⟩
  exact law_post laidOut (by kernel_rfl) rfl rfl (tb := 4) (by kernel_rfl) Try.underlying4 hW' hb

set_option maxRecDepth 100000 in
theorem lifted (os : Os) (started : os.Started) (H : Type) (enc : TypeId × Value → H) (F : Stop.Interp) :
    ReturnsInHanded {} Try.checked os 4 .any ((Rows.OpenSpec.upto Rows.typesReadsSpec).pre6 enc Try.prog Try.f4 Rows.typesReadsUptoRow.domain false) (((Rows.OpenSpec.upto Rows.typesReadsSpec).at F).post enc Try.prog Try.f4 false true false false) := by
  refine returnsInHanded_of_cond (C := Try.checked) (s := Rows.OpenSpec.upto Rows.typesReadsSpec) (k := Rows.uptoSmall) rfl own started (by kernel_rfl) Try.func4
    (OpenSpec.witness (enc := enc) (C := Try.checked) (s := Rows.OpenSpec.upto Rows.typesReadsSpec) (k := Rows.uptoSmall) rfl false
      ⟨#[], #[.agg #[.int .i64 0, .int .i64 0, .string ⟨#[]⟩, .string ⟨#[]⟩, .int .i64 0, .bool false, .int .u64 0, .int .u64 0, .int .u64 0, .int .u64 0, .int .i64 0, .bool false, .string ⟨#[]⟩, .int .i64 0, .int .i64 0, .int .i64 0, .slice none 0 0]], []⟩ 8 (by kernel_rfl) (by kernel_rfl) (by kernel_rfl)
      (x := ([.agg [.lit (.int .i64 0), .lit (.int .i64 0), .lit (.string []), .lit (.string []), .agg [.lit (.int .i64 0), .agg [.lit (.bool false), .agg [.lit (.int .u64 0), .lit (.int .u64 0), .lit (.int .u64 0), .lit (.int .u64 0)], .lit (.int .i64 0)], .lit (.bool false), .lit (.string []), .lit (.int .i64 0)], .lit (.int .i64 0), .lit (.int .i64 0), .nil]], [], [])) (by kernel_rfl) rfl (by kernel_rfl)) ?_
  intro W base args ds gs before hval hW _ hk _
  exact contract H enc W base args ds gs before hval hW hk

theorem proved : Rows.TypesReadsUptoSaid :=
  OpenClaim.holds_of_cond 4 Try.f4 rfl rfl rfl rfl rfl rfl rfl ⟨rfl, rfl, rfl, rfl, rfl⟩ rfl rfl rfl rfl rfl (by kernel_rfl) Try.func4 (by kernel_rfl)
    (of_decide_eq_true (by kernel_rfl)) (by unfold Func.isWrapper; first | (rw [if_pos (by decide +kernel)]; kernel_rfl) | (rw [if_neg (by decide +kernel)]; exact ⟨rfl, rfl⟩))
    (fun os started H enc _ F => lifted os started H enc F)
end Go.Proofs.Ytagmcgbbgjkdbaa.claimR
