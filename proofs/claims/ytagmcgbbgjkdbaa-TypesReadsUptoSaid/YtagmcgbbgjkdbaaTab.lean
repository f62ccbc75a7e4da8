/-
  THE PRINTED FUNCTIONS ARE THE LOADED ONES. (Printed by a program of ours.)
-/
import Derived.Test.YtagmcgbbgjkdbaaTab0
import Derived.Test.YtagmcgbbgjkdbaaTab1
import Derived.Test.YtagmcgbbgjkdbaaTab2
namespace Go.Abs.Try
open Go Go.Abs

theorem look_mem : ∀ (l : List (Nat × IFunc)) (f : Nat) (ig : IFunc), lookF l f = some ig → (f, ig) ∈ l
  | [], f, ig, h => by simp [lookF] at h
  | (k, g) :: l, f, ig, h => by
    simp only [lookF] at h
    split at h
    · rename_i e
      injection h with h
      subst e; subst h
      exact List.mem_cons_self
    · exact List.mem_cons_of_mem _ (look_mem l f ig h)

def Fits (p : Nat × IFunc) : Prop := ∃ fn, Go.Proofs.Try.prog.funcs[p.1]? = some fn ∧ okFunc Go.Proofs.Try.prog (drawOK (modeOf tbl)) fn p.2 = true

theorem fits_all : ∀ p ∈ tblL, Fits p := by
  unfold tblL
  refine List.forall_mem_cons.2 ⟨⟨_, Go.Proofs.Try.func3, ok3⟩, ?_⟩
  refine List.forall_mem_cons.2 ⟨⟨_, Go.Proofs.Try.func4, ok4⟩, ?_⟩
  refine List.forall_mem_cons.2 ⟨⟨_, Go.Proofs.Try.func5, ok5⟩, ?_⟩
  refine List.forall_mem_cons.2 ⟨⟨_, Go.Proofs.Try.func6, ok6⟩, ?_⟩
  refine List.forall_mem_cons.2 ⟨⟨_, Go.Proofs.Try.func7, ok7⟩, ?_⟩
  refine List.forall_mem_cons.2 ⟨⟨_, Go.Proofs.Try.func8, ok8⟩, ?_⟩
  refine List.forall_mem_cons.2 ⟨⟨_, Go.Proofs.Try.func9, ok9⟩, ?_⟩
  refine List.forall_mem_cons.2 ⟨⟨_, Go.Proofs.Try.func12, ok12⟩, ?_⟩
  refine List.forall_mem_cons.2 ⟨⟨_, Go.Proofs.Try.func14, ok14⟩, ?_⟩
  refine List.forall_mem_cons.2 ⟨⟨_, Go.Proofs.Try.func15, ok15⟩, ?_⟩
  refine List.forall_mem_cons.2 ⟨⟨_, Go.Proofs.Try.func16, ok16⟩, ?_⟩
  refine List.forall_mem_cons.2 ⟨⟨_, Go.Proofs.Try.func17, ok17⟩, ?_⟩
  refine List.forall_mem_cons.2 ⟨⟨_, Go.Proofs.Try.func18, ok18⟩, ?_⟩
  refine List.forall_mem_cons.2 ⟨⟨_, Go.Proofs.Try.func19, ok19⟩, ?_⟩
  refine List.forall_mem_cons.2 ⟨⟨_, Go.Proofs.Try.func20, ok20⟩, ?_⟩
  refine List.forall_mem_cons.2 ⟨⟨_, Go.Proofs.Try.func21, ok21⟩, ?_⟩
  refine List.forall_mem_cons.2 ⟨⟨_, Go.Proofs.Try.func22, ok22⟩, ?_⟩
  refine List.forall_mem_cons.2 ⟨⟨_, Go.Proofs.Try.func23, ok23⟩, ?_⟩
  refine List.forall_mem_cons.2 ⟨⟨_, Go.Proofs.Try.func24, ok24⟩, ?_⟩
  refine List.forall_mem_cons.2 ⟨⟨_, Go.Proofs.Try.func25, ok25⟩, ?_⟩
  refine List.forall_mem_cons.2 ⟨⟨_, Go.Proofs.Try.func26, ok26⟩, ?_⟩
  refine List.forall_mem_cons.2 ⟨⟨_, Go.Proofs.Try.func27, ok27⟩, ?_⟩
  refine List.forall_mem_cons.2 ⟨⟨_, Go.Proofs.Try.func28, ok28⟩, ?_⟩
  refine List.forall_mem_cons.2 ⟨⟨_, Go.Proofs.Try.func29, ok29⟩, ?_⟩
  refine List.forall_mem_cons.2 ⟨⟨_, Go.Proofs.Try.func30, ok30⟩, ?_⟩
  refine List.forall_mem_cons.2 ⟨⟨_, Go.Proofs.Try.func31, ok31⟩, ?_⟩
  refine List.forall_mem_cons.2 ⟨⟨_, Go.Proofs.Try.func32, ok32⟩, ?_⟩
  refine List.forall_mem_cons.2 ⟨⟨_, Go.Proofs.Try.func33, ok33⟩, ?_⟩
  refine List.forall_mem_cons.2 ⟨⟨_, Go.Proofs.Try.func34, ok34⟩, ?_⟩
  refine List.forall_mem_cons.2 ⟨⟨_, Go.Proofs.Try.func35, ok35⟩, ?_⟩
  refine List.forall_mem_cons.2 ⟨⟨_, Go.Proofs.Try.func36, ok36⟩, ?_⟩
  refine List.forall_mem_cons.2 ⟨⟨_, Go.Proofs.Try.func37, ok37⟩, ?_⟩
  refine List.forall_mem_cons.2 ⟨⟨_, Go.Proofs.Try.func38, ok38⟩, ?_⟩
  refine List.forall_mem_cons.2 ⟨⟨_, Go.Proofs.Try.func39, ok39⟩, ?_⟩
  refine List.forall_mem_cons.2 ⟨⟨_, Go.Proofs.Try.func40, ok40⟩, ?_⟩
  refine List.forall_mem_cons.2 ⟨⟨_, Go.Proofs.Try.func41, ok41⟩, ?_⟩
  refine List.forall_mem_cons.2 ⟨⟨_, Go.Proofs.Try.func42, ok42⟩, ?_⟩
  refine List.forall_mem_cons.2 ⟨⟨_, Go.Proofs.Try.func43, ok43⟩, ?_⟩
  refine List.forall_mem_cons.2 ⟨⟨_, Go.Proofs.Try.func44, ok44⟩, ?_⟩
  refine List.forall_mem_cons.2 ⟨⟨_, Go.Proofs.Try.func45, ok45⟩, ?_⟩
  refine List.forall_mem_cons.2 ⟨⟨_, Go.Proofs.Try.func46, ok46⟩, ?_⟩
  refine List.forall_mem_cons.2 ⟨⟨_, Go.Proofs.Try.func47, ok47⟩, ?_⟩
  refine List.forall_mem_cons.2 ⟨⟨_, Go.Proofs.Try.func48, ok48⟩, ?_⟩
  refine List.forall_mem_cons.2 ⟨⟨_, Go.Proofs.Try.func49, ok49⟩, ?_⟩
  refine List.forall_mem_cons.2 ⟨⟨_, Go.Proofs.Try.func50, ok50⟩, ?_⟩
  refine List.forall_mem_cons.2 ⟨⟨_, Go.Proofs.Try.func51, ok51⟩, ?_⟩
  refine List.forall_mem_cons.2 ⟨⟨_, Go.Proofs.Try.func52, ok52⟩, ?_⟩
  refine List.forall_mem_cons.2 ⟨⟨_, Go.Proofs.Try.func53, ok53⟩, ?_⟩
  refine List.forall_mem_cons.2 ⟨⟨_, Go.Proofs.Try.func54, ok54⟩, ?_⟩
  refine List.forall_mem_cons.2 ⟨⟨_, Go.Proofs.Try.func55, ok55⟩, ?_⟩
  refine List.forall_mem_cons.2 ⟨⟨_, Go.Proofs.Try.func56, ok56⟩, ?_⟩
  refine List.forall_mem_cons.2 ⟨⟨_, Go.Proofs.Try.func57, ok57⟩, ?_⟩
  refine List.forall_mem_cons.2 ⟨⟨_, Go.Proofs.Try.func58, ok58⟩, ?_⟩
  refine List.forall_mem_cons.2 ⟨⟨_, Go.Proofs.Try.func59, ok59⟩, ?_⟩
  refine List.forall_mem_cons.2 ⟨⟨_, Go.Proofs.Try.func60, ok60⟩, ?_⟩
  refine List.forall_mem_cons.2 ⟨⟨_, Go.Proofs.Try.func61, ok61⟩, ?_⟩
  refine List.forall_mem_cons.2 ⟨⟨_, Go.Proofs.Try.func62, ok62⟩, ?_⟩
  refine List.forall_mem_cons.2 ⟨⟨_, Go.Proofs.Try.func63, ok63⟩, ?_⟩
  refine List.forall_mem_cons.2 ⟨⟨_, Go.Proofs.Try.func64, ok64⟩, ?_⟩
  refine List.forall_mem_cons.2 ⟨⟨_, Go.Proofs.Try.func65, ok65⟩, ?_⟩
  refine List.forall_mem_cons.2 ⟨⟨_, Go.Proofs.Try.func66, ok66⟩, ?_⟩
  refine List.forall_mem_cons.2 ⟨⟨_, Go.Proofs.Try.func67, ok67⟩, ?_⟩
  refine List.forall_mem_cons.2 ⟨⟨_, Go.Proofs.Try.func68, ok68⟩, ?_⟩
  refine List.forall_mem_cons.2 ⟨⟨_, Go.Proofs.Try.func69, ok69⟩, ?_⟩
  refine List.forall_mem_cons.2 ⟨⟨_, Go.Proofs.Try.func70, ok70⟩, ?_⟩
  refine List.forall_mem_cons.2 ⟨⟨_, Go.Proofs.Try.func71, ok71⟩, ?_⟩
  refine List.forall_mem_cons.2 ⟨⟨_, Go.Proofs.Try.func72, ok72⟩, ?_⟩
  refine List.forall_mem_cons.2 ⟨⟨_, Go.Proofs.Try.func73, ok73⟩, ?_⟩
  refine List.forall_mem_cons.2 ⟨⟨_, Go.Proofs.Try.func74, ok74⟩, ?_⟩
  refine List.forall_mem_cons.2 ⟨⟨_, Go.Proofs.Try.func75, ok75⟩, ?_⟩
  refine List.forall_mem_cons.2 ⟨⟨_, Go.Proofs.Try.func76, ok76⟩, ?_⟩
  refine List.forall_mem_cons.2 ⟨⟨_, Go.Proofs.Try.func77, ok77⟩, ?_⟩
  refine List.forall_mem_cons.2 ⟨⟨_, Go.Proofs.Try.func78, ok78⟩, ?_⟩
  refine List.forall_mem_cons.2 ⟨⟨_, Go.Proofs.Try.func79, ok79⟩, ?_⟩
  refine List.forall_mem_cons.2 ⟨⟨_, Go.Proofs.Try.func80, ok80⟩, ?_⟩
  refine List.forall_mem_cons.2 ⟨⟨_, Go.Proofs.Try.func81, ok81⟩, ?_⟩
  refine List.forall_mem_cons.2 ⟨⟨_, Go.Proofs.Try.func82, ok82⟩, ?_⟩
  refine List.forall_mem_cons.2 ⟨⟨_, Go.Proofs.Try.func83, ok83⟩, ?_⟩
  refine List.forall_mem_cons.2 ⟨⟨_, Go.Proofs.Try.func84, ok84⟩, ?_⟩
  refine List.forall_mem_cons.2 ⟨⟨_, Go.Proofs.Try.func85, ok85⟩, ?_⟩
  refine List.forall_mem_cons.2 ⟨⟨_, Go.Proofs.Try.func86, ok86⟩, ?_⟩
  refine List.forall_mem_cons.2 ⟨⟨_, Go.Proofs.Try.func87, ok87⟩, ?_⟩
  refine List.forall_mem_cons.2 ⟨⟨_, Go.Proofs.Try.func88, ok88⟩, ?_⟩
  refine List.forall_mem_cons.2 ⟨⟨_, Go.Proofs.Try.func89, ok89⟩, ?_⟩
  refine List.forall_mem_cons.2 ⟨⟨_, Go.Proofs.Try.func90, ok90⟩, ?_⟩
  refine List.forall_mem_cons.2 ⟨⟨_, Go.Proofs.Try.func91, ok91⟩, ?_⟩
  refine List.forall_mem_cons.2 ⟨⟨_, Go.Proofs.Try.func92, ok92⟩, ?_⟩
  refine List.forall_mem_cons.2 ⟨⟨_, Go.Proofs.Try.func93, ok93⟩, ?_⟩
  refine List.forall_mem_cons.2 ⟨⟨_, Go.Proofs.Try.func94, ok94⟩, ?_⟩
  refine List.forall_mem_cons.2 ⟨⟨_, Go.Proofs.Try.func95, ok95⟩, ?_⟩
  refine List.forall_mem_cons.2 ⟨⟨_, Go.Proofs.Try.func96, ok96⟩, ?_⟩
  refine List.forall_mem_cons.2 ⟨⟨_, Go.Proofs.Try.func97, ok97⟩, ?_⟩
  refine List.forall_mem_cons.2 ⟨⟨_, Go.Proofs.Try.func98, ok98⟩, ?_⟩
  refine List.forall_mem_cons.2 ⟨⟨_, Go.Proofs.Try.func99, ok99⟩, ?_⟩
  refine List.forall_mem_cons.2 ⟨⟨_, Go.Proofs.Try.func100, ok100⟩, ?_⟩
  refine List.forall_mem_cons.2 ⟨⟨_, Go.Proofs.Try.func101, ok101⟩, ?_⟩
  refine List.forall_mem_cons.2 ⟨⟨_, Go.Proofs.Try.func102, ok102⟩, ?_⟩
  refine List.forall_mem_cons.2 ⟨⟨_, Go.Proofs.Try.func103, ok103⟩, ?_⟩
  refine List.forall_mem_cons.2 ⟨⟨_, Go.Proofs.Try.func104, ok104⟩, ?_⟩
  refine List.forall_mem_cons.2 ⟨⟨_, Go.Proofs.Try.func105, ok105⟩, ?_⟩
  refine List.forall_mem_cons.2 ⟨⟨_, Go.Proofs.Try.func106, ok106⟩, ?_⟩
  refine List.forall_mem_cons.2 ⟨⟨_, Go.Proofs.Try.func107, ok107⟩, ?_⟩
  exact fun p h => (nomatch h)

theorem tab_ok : TabOK Go.Proofs.Try.prog (drawOK (modeOf tbl)) tbl := fun f ig h => fits_all (f, ig) (look_mem _ f ig h)
end Go.Abs.Try
