/-
  WHAT AN EXPRESSION READS: the program's Reads.
-/
import Derived.Test.YtagmcgbbgjkdbaaRd10b
set_option linter.all false
namespace Go.Abs.M
open Go Go.Abs Go.Abs.Try

theorem sealReads (fl : Nat) (cv : Nat → Nat → Nat → Nat → Option (List (List V))) (l : List Read) : sealLL fl cv (l.map Read.cells) = some (l.map Read.cells) := sealLL_map fl cv _ l fun x _ => Read.stay fl cv x

def H9 : Nat → Option Blk :=
  upd (upd (upd (upd (upd (upd (fun _ => none) 0 (some (.cells [.list .full []]))) 1 (some (.map []))) 2 (some (.cells [.nilm]))) 2 (some (.cells [.mapr 1]))) 3 (some (.cells [.nilf]))) 3 (some (.cells [.fn 27 [.ref 2 0, .ref 0 0, .ref 3 0]]))

theorem call9 (nat : Natives) (x : Expr) (hn : nodes x ≤ room) (h : HS) : callI nat tbl 9 [.agg x.cells] h = some (.list .no ((walkR x []).map Read.cells), h) := by
  have hi : WInv H9 4 [] := ⟨rfl, rfl, rfl, .inl ⟨rfl, rfl⟩, Nat.le_refl _⟩
  obtain ⟨H', nx', hi', hc⟩ := walk_ok nat x [] H9 4 hi (by simpa using hn)
  have key : ∃ p, H' 0 = some (.cells [.list p ((walkR x []).map Read.cells)]) := by
    rcases hi'.h0 with ⟨e, h0⟩ | ⟨b, _, _, h0, _⟩
    · exact ⟨.full, by rw [e]; exact h0⟩
    · exact ⟨_, h0⟩
  obtain ⟨p, hp⟩ := key
  unfold H9 at hc
  refine call0 (body := g9.body) (res := g9.results) (args' := [.agg x.cells]) (u := .list p ((walkR x []).map Read.cells)) (h' := ⟨H', nx', 0⟩) rfl (by simp [sealL, sealV]) ?_ ?_
  · rw [runI_K]
    unfold g9
    simp [argEnv, setCells, masked_nil, hc, hp, readRes, Opd.eval, packRes]
  · simp only [sealV, sealReads, Option.bind_some]
    cases p <;> simp [sealP]
end Go.Abs.M
