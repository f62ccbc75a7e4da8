/-
  THE KERNEL'S LOOK AT THE PRINTED FUNCTIONS, part 1. (Printed by a program of ours.)
-/
import Derived.Test.YtagmcgbbgjkdbaaIR
import Derived.Test.YtagmcgbbgjkdbaaAbs26
import Derived.Test.YtagmcgbbgjkdbaaChecked
import Derived.KernelRfl
namespace Go.Abs.Try
open Go Go.Abs

theorem ok46 : okFunc Go.Proofs.Try.prog (drawOK (modeOf tbl)) Go.Proofs.Try.f46 g46 = true := by kernel_rfl
theorem ok47 : okFunc Go.Proofs.Try.prog (drawOK (modeOf tbl)) Go.Proofs.Try.f47 g47 = true := by kernel_rfl
theorem ok48 : okFunc Go.Proofs.Try.prog (drawOK (modeOf tbl)) Go.Proofs.Try.f48 g48 = true := by kernel_rfl
theorem ok49 : okFunc Go.Proofs.Try.prog (drawOK (modeOf tbl)) Go.Proofs.Try.f49 g49 = true := by kernel_rfl
theorem ok50 : okFunc Go.Proofs.Try.prog (drawOK (modeOf tbl)) Go.Proofs.Try.f50 g50 = true := by kernel_rfl
theorem ok51 : okFunc Go.Proofs.Try.prog (drawOK (modeOf tbl)) Go.Proofs.Try.f51 g51 = true := by kernel_rfl
theorem ok52 : okFunc Go.Proofs.Try.prog (drawOK (modeOf tbl)) Go.Proofs.Try.f52 g52 = true := by kernel_rfl
theorem ok53 : okFunc Go.Proofs.Try.prog (drawOK (modeOf tbl)) Go.Proofs.Try.f53 g53 = true := by kernel_rfl
theorem ok54 : okFunc Go.Proofs.Try.prog (drawOK (modeOf tbl)) Go.Proofs.Try.f54 g54 = true := by kernel_rfl
theorem ok55 : okFunc Go.Proofs.Try.prog (drawOK (modeOf tbl)) Go.Proofs.Try.f55 g55 = true := by kernel_rfl
theorem ok56 : okFunc Go.Proofs.Try.prog (drawOK (modeOf tbl)) Go.Proofs.Try.f56 g56 = true := by kernel_rfl
theorem ok57 : okFunc Go.Proofs.Try.prog (drawOK (modeOf tbl)) Go.Proofs.Try.f57 g57 = true := by kernel_rfl
theorem ok58 : okFunc Go.Proofs.Try.prog (drawOK (modeOf tbl)) Go.Proofs.Try.f58 g58 = true := by kernel_rfl
theorem ok59 : okFunc Go.Proofs.Try.prog (drawOK (modeOf tbl)) Go.Proofs.Try.f59 g59 = true := by kernel_rfl
theorem ok60 : okFunc Go.Proofs.Try.prog (drawOK (modeOf tbl)) Go.Proofs.Try.f60 g60 = true := by kernel_rfl
theorem ok61 : okFunc Go.Proofs.Try.prog (drawOK (modeOf tbl)) Go.Proofs.Try.f61 g61 = true := by kernel_rfl
theorem ok62 : okFunc Go.Proofs.Try.prog (drawOK (modeOf tbl)) Go.Proofs.Try.f62 g62 = true := by kernel_rfl
theorem ok63 : okFunc Go.Proofs.Try.prog (drawOK (modeOf tbl)) Go.Proofs.Try.f63 g63 = true := by kernel_rfl
theorem ok64 : okFunc Go.Proofs.Try.prog (drawOK (modeOf tbl)) Go.Proofs.Try.f64 g64 = true := by kernel_rfl
theorem ok65 : okFunc Go.Proofs.Try.prog (drawOK (modeOf tbl)) Go.Proofs.Try.f65 g65 = true := by kernel_rfl
theorem ok66 : okFunc Go.Proofs.Try.prog (drawOK (modeOf tbl)) Go.Proofs.Try.f66 g66 = true := by kernel_rfl
theorem ok67 : okFunc Go.Proofs.Try.prog (drawOK (modeOf tbl)) Go.Proofs.Try.f67 g67 = true := by kernel_rfl
theorem ok68 : okFunc Go.Proofs.Try.prog (drawOK (modeOf tbl)) Go.Proofs.Try.f68 g68 = true := by kernel_rfl
theorem ok69 : okFunc Go.Proofs.Try.prog (drawOK (modeOf tbl)) Go.Proofs.Try.f69 g69 = true := by kernel_rfl
theorem ok70 : okFunc Go.Proofs.Try.prog (drawOK (modeOf tbl)) Go.Proofs.Try.f70 g70 = true := by kernel_rfl
theorem ok71 : okFunc Go.Proofs.Try.prog (drawOK (modeOf tbl)) Go.Proofs.Try.f71 g71 = true := by kernel_rfl
theorem ok72 : okFunc Go.Proofs.Try.prog (drawOK (modeOf tbl)) Go.Proofs.Try.f72 g72 = true := by kernel_rfl
theorem ok73 : okFunc Go.Proofs.Try.prog (drawOK (modeOf tbl)) Go.Proofs.Try.f73 g73 = true := by kernel_rfl
theorem ok74 : okFunc Go.Proofs.Try.prog (drawOK (modeOf tbl)) Go.Proofs.Try.f74 g74 = true := by kernel_rfl
theorem ok75 : okFunc Go.Proofs.Try.prog (drawOK (modeOf tbl)) Go.Proofs.Try.f75 g75 = true := by kernel_rfl
theorem ok76 : okFunc Go.Proofs.Try.prog (drawOK (modeOf tbl)) Go.Proofs.Try.f76 g76 = true := by kernel_rfl
theorem ok77 : okFunc Go.Proofs.Try.prog (drawOK (modeOf tbl)) Go.Proofs.Try.f77 g77 = true := by kernel_rfl
theorem ok78 : okFunc Go.Proofs.Try.prog (drawOK (modeOf tbl)) Go.Proofs.Try.f78 g78 = true := by kernel_rfl
theorem ok79 : okFunc Go.Proofs.Try.prog (drawOK (modeOf tbl)) Go.Proofs.Try.f79 g79 = true := by kernel_rfl
theorem ok80 : okFunc Go.Proofs.Try.prog (drawOK (modeOf tbl)) Go.Proofs.Try.f80 g80 = true := by kernel_rfl
theorem ok81 : okFunc Go.Proofs.Try.prog (drawOK (modeOf tbl)) Go.Proofs.Try.f81 g81 = true := by kernel_rfl
theorem ok82 : okFunc Go.Proofs.Try.prog (drawOK (modeOf tbl)) Go.Proofs.Try.f82 g82 = true := by kernel_rfl
theorem ok83 : okFunc Go.Proofs.Try.prog (drawOK (modeOf tbl)) Go.Proofs.Try.f83 g83 = true := by kernel_rfl
theorem ok84 : okFunc Go.Proofs.Try.prog (drawOK (modeOf tbl)) Go.Proofs.Try.f84 g84 = true := by kernel_rfl
theorem ok85 : okFunc Go.Proofs.Try.prog (drawOK (modeOf tbl)) Go.Proofs.Try.f85 g85 = true := by kernel_rfl
end Go.Abs.Try
