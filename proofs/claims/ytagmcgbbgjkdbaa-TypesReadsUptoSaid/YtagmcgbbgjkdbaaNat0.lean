/-
  FUNCTIONS THAT ARE PROVED BY HAND: what they do. (Definitions alone.)
-/
import Derived.Test.YtagmcgbbgjkdbaaAbs0
set_option linter.all false
namespace Go.Abs
open Go

/-- slices.Clone over elements of so many cells: a slice of its own, that may grow. -/
def cloneR (sz : Nat) (args : List V) (h : HS) : Option (V × HS) :=
  match args with
  | [.list _ es] =>
    if es.isEmpty then some (.list .full [], ⟨h.H, h.next + 1, h.floor⟩)
    else if es.length ≤ room ∧ headLen sz es then some (.list (.own h.next) es, ⟨upd h.H h.next (some (.perm sz es.length)), h.next + 1, h.floor⟩)
    else none
  | _ => none

/-- The natives of a seat: which functions are slices.Clone, over which size. -/
def natOf (l : List (Nat × Nat)) : Natives := fun f args h =>
  match l.find? (·.1 == f) with
  | some (_, sz) => cloneR sz args h
  | none => none
end Go.Abs
