/-
  THE LAW's OWN EXAMPLE ('begun') ANSWERS TRUE: a closed call, computed by the kernel.
-/
import Derived.Test.YtagmcgbbgjkdbaaIR
import Derived.Test.YtagmcgbbgjkdbaaFast2
import Derived.Test.YtagmcgbbgjkdbaaDen0
import Derived.KernelRfl
set_option linter.all false
namespace Go.Abs.Try
open Go Go.Abs

/-- slices.Clone over items, tables, sections. -/
def nl : List (Nat × Nat) := [(10, 23), (11, 2), (13, 4)]
def nat : Natives := natOf nl

theorem tree_get : ∀ (l : List (Nat × IFunc)) (f : Nat), (treeOf l).get f = lookF l f
  | [], f => rfl
  | (k, g) :: l, f => by
    show ((treeOf l).put k (some g)).get f = if f = k then some g else lookF l f
    rw [T.get_put, tree_get l f]

theorem begun_k : isTrue (callF nl (treeOf tblL) 120 7 [] ⟨.leaf, 0, 0⟩) = true := by kernel_rfl

theorem begun (h : HS) : callI nat tbl 7 [] h = some (.bool true, h) := by
  obtain ⟨h', hc⟩ := callF_true (fun f => tree_get tblL f) begun_k
  exact callI_fuel 120 ((callN_foot (nat := nat) (tbl := tbl) 120).pure 7 [] _ _ _ rfl hc h)
end Go.Abs.Try
