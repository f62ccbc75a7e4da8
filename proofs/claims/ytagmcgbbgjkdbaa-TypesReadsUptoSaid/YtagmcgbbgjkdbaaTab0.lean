/-
  THE KERNEL'S LOOK AT THE PRINTED FUNCTIONS, part 0. (Printed by a program of ours.)
-/
import Derived.Test.YtagmcgbbgjkdbaaIR
import Derived.Test.YtagmcgbbgjkdbaaAbs26
import Derived.Test.YtagmcgbbgjkdbaaChecked
import Derived.KernelRfl
namespace Go.Abs.Try
open Go Go.Abs

theorem ok3 : okFunc Go.Proofs.Try.prog (drawOK (modeOf tbl)) Go.Proofs.Try.f3 g3 = true := by kernel_rfl
theorem ok4 : okFunc Go.Proofs.Try.prog (drawOK (modeOf tbl)) Go.Proofs.Try.f4 g4 = true := by kernel_rfl
theorem ok5 : okFunc Go.Proofs.Try.prog (drawOK (modeOf tbl)) Go.Proofs.Try.f5 g5 = true := by kernel_rfl
theorem ok6 : okFunc Go.Proofs.Try.prog (drawOK (modeOf tbl)) Go.Proofs.Try.f6 g6 = true := by kernel_rfl
theorem ok7 : okFunc Go.Proofs.Try.prog (drawOK (modeOf tbl)) Go.Proofs.Try.f7 g7 = true := by kernel_rfl
theorem ok8 : okFunc Go.Proofs.Try.prog (drawOK (modeOf tbl)) Go.Proofs.Try.f8 g8 = true := by kernel_rfl
theorem ok9 : okFunc Go.Proofs.Try.prog (drawOK (modeOf tbl)) Go.Proofs.Try.f9 g9 = true := by kernel_rfl
theorem ok12 : okFunc Go.Proofs.Try.prog (drawOK (modeOf tbl)) Go.Proofs.Try.f12 g12 = true := by kernel_rfl
theorem ok14 : okFunc Go.Proofs.Try.prog (drawOK (modeOf tbl)) Go.Proofs.Try.f14 g14 = true := by kernel_rfl
theorem ok15 : okFunc Go.Proofs.Try.prog (drawOK (modeOf tbl)) Go.Proofs.Try.f15 g15 = true := by kernel_rfl
theorem ok16 : okFunc Go.Proofs.Try.prog (drawOK (modeOf tbl)) Go.Proofs.Try.f16 g16 = true := by kernel_rfl
theorem ok17 : okFunc Go.Proofs.Try.prog (drawOK (modeOf tbl)) Go.Proofs.Try.f17 g17 = true := by kernel_rfl
theorem ok18 : okFunc Go.Proofs.Try.prog (drawOK (modeOf tbl)) Go.Proofs.Try.f18 g18 = true := by kernel_rfl
theorem ok19 : okFunc Go.Proofs.Try.prog (drawOK (modeOf tbl)) Go.Proofs.Try.f19 g19 = true := by kernel_rfl
theorem ok20 : okFunc Go.Proofs.Try.prog (drawOK (modeOf tbl)) Go.Proofs.Try.f20 g20 = true := by kernel_rfl
theorem ok21 : okFunc Go.Proofs.Try.prog (drawOK (modeOf tbl)) Go.Proofs.Try.f21 g21 = true := by kernel_rfl
theorem ok22 : okFunc Go.Proofs.Try.prog (drawOK (modeOf tbl)) Go.Proofs.Try.f22 g22 = true := by kernel_rfl
theorem ok23 : okFunc Go.Proofs.Try.prog (drawOK (modeOf tbl)) Go.Proofs.Try.f23 g23 = true := by kernel_rfl
theorem ok24 : okFunc Go.Proofs.Try.prog (drawOK (modeOf tbl)) Go.Proofs.Try.f24 g24 = true := by kernel_rfl
theorem ok25 : okFunc Go.Proofs.Try.prog (drawOK (modeOf tbl)) Go.Proofs.Try.f25 g25 = true := by kernel_rfl
theorem ok26 : okFunc Go.Proofs.Try.prog (drawOK (modeOf tbl)) Go.Proofs.Try.f26 g26 = true := by kernel_rfl
theorem ok27 : okFunc Go.Proofs.Try.prog (drawOK (modeOf tbl)) Go.Proofs.Try.f27 g27 = true := by kernel_rfl
theorem ok28 : okFunc Go.Proofs.Try.prog (drawOK (modeOf tbl)) Go.Proofs.Try.f28 g28 = true := by kernel_rfl
theorem ok29 : okFunc Go.Proofs.Try.prog (drawOK (modeOf tbl)) Go.Proofs.Try.f29 g29 = true := by kernel_rfl
theorem ok30 : okFunc Go.Proofs.Try.prog (drawOK (modeOf tbl)) Go.Proofs.Try.f30 g30 = true := by kernel_rfl
theorem ok31 : okFunc Go.Proofs.Try.prog (drawOK (modeOf tbl)) Go.Proofs.Try.f31 g31 = true := by kernel_rfl
theorem ok32 : okFunc Go.Proofs.Try.prog (drawOK (modeOf tbl)) Go.Proofs.Try.f32 g32 = true := by kernel_rfl
theorem ok33 : okFunc Go.Proofs.Try.prog (drawOK (modeOf tbl)) Go.Proofs.Try.f33 g33 = true := by kernel_rfl
theorem ok34 : okFunc Go.Proofs.Try.prog (drawOK (modeOf tbl)) Go.Proofs.Try.f34 g34 = true := by kernel_rfl
theorem ok35 : okFunc Go.Proofs.Try.prog (drawOK (modeOf tbl)) Go.Proofs.Try.f35 g35 = true := by kernel_rfl
theorem ok36 : okFunc Go.Proofs.Try.prog (drawOK (modeOf tbl)) Go.Proofs.Try.f36 g36 = true := by kernel_rfl
theorem ok37 : okFunc Go.Proofs.Try.prog (drawOK (modeOf tbl)) Go.Proofs.Try.f37 g37 = true := by kernel_rfl
theorem ok38 : okFunc Go.Proofs.Try.prog (drawOK (modeOf tbl)) Go.Proofs.Try.f38 g38 = true := by kernel_rfl
theorem ok39 : okFunc Go.Proofs.Try.prog (drawOK (modeOf tbl)) Go.Proofs.Try.f39 g39 = true := by kernel_rfl
theorem ok40 : okFunc Go.Proofs.Try.prog (drawOK (modeOf tbl)) Go.Proofs.Try.f40 g40 = true := by kernel_rfl
theorem ok41 : okFunc Go.Proofs.Try.prog (drawOK (modeOf tbl)) Go.Proofs.Try.f41 g41 = true := by kernel_rfl
theorem ok42 : okFunc Go.Proofs.Try.prog (drawOK (modeOf tbl)) Go.Proofs.Try.f42 g42 = true := by kernel_rfl
theorem ok43 : okFunc Go.Proofs.Try.prog (drawOK (modeOf tbl)) Go.Proofs.Try.f43 g43 = true := by kernel_rfl
theorem ok44 : okFunc Go.Proofs.Try.prog (drawOK (modeOf tbl)) Go.Proofs.Try.f44 g44 = true := by kernel_rfl
theorem ok45 : okFunc Go.Proofs.Try.prog (drawOK (modeOf tbl)) Go.Proofs.Try.f45 g45 = true := by kernel_rfl
end Go.Abs.Try
