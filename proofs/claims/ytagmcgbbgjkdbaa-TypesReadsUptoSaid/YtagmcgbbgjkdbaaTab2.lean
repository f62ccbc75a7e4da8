/-
  THE KERNEL'S LOOK AT THE PRINTED FUNCTIONS, part 2. (Printed by a program of ours.)
-/
import Derived.Test.YtagmcgbbgjkdbaaIR
import Derived.Test.YtagmcgbbgjkdbaaAbs26
import Derived.Test.YtagmcgbbgjkdbaaChecked
import Derived.KernelRfl
namespace Go.Abs.Try
open Go Go.Abs

theorem ok86 : okFunc Go.Proofs.Try.prog (drawOK (modeOf tbl)) Go.Proofs.Try.f86 g86 = true := by kernel_rfl
theorem ok87 : okFunc Go.Proofs.Try.prog (drawOK (modeOf tbl)) Go.Proofs.Try.f87 g87 = true := by kernel_rfl
theorem ok88 : okFunc Go.Proofs.Try.prog (drawOK (modeOf tbl)) Go.Proofs.Try.f88 g88 = true := by kernel_rfl
theorem ok89 : okFunc Go.Proofs.Try.prog (drawOK (modeOf tbl)) Go.Proofs.Try.f89 g89 = true := by kernel_rfl
theorem ok90 : okFunc Go.Proofs.Try.prog (drawOK (modeOf tbl)) Go.Proofs.Try.f90 g90 = true := by kernel_rfl
theorem ok91 : okFunc Go.Proofs.Try.prog (drawOK (modeOf tbl)) Go.Proofs.Try.f91 g91 = true := by kernel_rfl
theorem ok92 : okFunc Go.Proofs.Try.prog (drawOK (modeOf tbl)) Go.Proofs.Try.f92 g92 = true := by kernel_rfl
theorem ok93 : okFunc Go.Proofs.Try.prog (drawOK (modeOf tbl)) Go.Proofs.Try.f93 g93 = true := by kernel_rfl
theorem ok94 : okFunc Go.Proofs.Try.prog (drawOK (modeOf tbl)) Go.Proofs.Try.f94 g94 = true := by kernel_rfl
theorem ok95 : okFunc Go.Proofs.Try.prog (drawOK (modeOf tbl)) Go.Proofs.Try.f95 g95 = true := by kernel_rfl
theorem ok96 : okFunc Go.Proofs.Try.prog (drawOK (modeOf tbl)) Go.Proofs.Try.f96 g96 = true := by kernel_rfl
theorem ok97 : okFunc Go.Proofs.Try.prog (drawOK (modeOf tbl)) Go.Proofs.Try.f97 g97 = true := by kernel_rfl
theorem ok98 : okFunc Go.Proofs.Try.prog (drawOK (modeOf tbl)) Go.Proofs.Try.f98 g98 = true := by kernel_rfl
theorem ok99 : okFunc Go.Proofs.Try.prog (drawOK (modeOf tbl)) Go.Proofs.Try.f99 g99 = true := by kernel_rfl
theorem ok100 : okFunc Go.Proofs.Try.prog (drawOK (modeOf tbl)) Go.Proofs.Try.f100 g100 = true := by kernel_rfl
theorem ok101 : okFunc Go.Proofs.Try.prog (drawOK (modeOf tbl)) Go.Proofs.Try.f101 g101 = true := by kernel_rfl
theorem ok102 : okFunc Go.Proofs.Try.prog (drawOK (modeOf tbl)) Go.Proofs.Try.f102 g102 = true := by kernel_rfl
theorem ok103 : okFunc Go.Proofs.Try.prog (drawOK (modeOf tbl)) Go.Proofs.Try.f103 g103 = true := by kernel_rfl
theorem ok104 : okFunc Go.Proofs.Try.prog (drawOK (modeOf tbl)) Go.Proofs.Try.f104 g104 = true := by kernel_rfl
theorem ok105 : okFunc Go.Proofs.Try.prog (drawOK (modeOf tbl)) Go.Proofs.Try.f105 g105 = true := by kernel_rfl
theorem ok106 : okFunc Go.Proofs.Try.prog (drawOK (modeOf tbl)) Go.Proofs.Try.f106 g106 = true := by kernel_rfl
theorem ok107 : okFunc Go.Proofs.Try.prog (drawOK (modeOf tbl)) Go.Proofs.Try.f107 g107 = true := by kernel_rfl
end Go.Abs.Try
