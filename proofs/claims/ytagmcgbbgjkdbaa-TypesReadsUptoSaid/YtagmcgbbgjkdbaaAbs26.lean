/-
  A TABLE OF FUNCTIONS IS SOUND.
-/
import Derived.Test.YtagmcgbbgjkdbaaAbs25
set_option linter.all false
namespace Go.Abs
open Go

section
variable {P : Program} {nat : Natives} {tbl : Nat → Option IFunc}

def modeOf (tbl : Nat → Option IFunc) (f : Nat) : Nat := match tbl f with | some ig => ig.mode | none => 2

theorem callN_foot : ∀ k, CallFoot (modeOf tbl) (callN nat tbl k)
  | 0 => ⟨fun f args h v h' _ hc => by simp [callN] at hc, fun f args h v h' _ hc => by simp [callN] at hc, callN_floor 0⟩
  | k + 1 => by
    refine ⟨fun f args h v h' hm hc => ?_, fun f args h v h' hm hc h2 => ?_, callN_floor (k + 1)⟩
    · simp only [callN] at hc
      cases hig : tbl f with
      | none =>
        simp [modeOf, hig] at hm
      | some ig =>
        simp only [hig] at hc
        simp only [modeOf, hig] at hm
        split at hc
        · simp only [Option.bind_eq_some_iff, Option.some.injEq, Prod.mk.injEq] at hc
          obtain ⟨_, _, _, _, _, _, _, rfl⟩ := hc
          rfl
        · simp only [Option.bind_eq_some_iff, Option.some.injEq, Prod.mk.injEq] at hc
          obtain ⟨_, _, _, _, _, rfl⟩ := hc
          rfl
        · rename_i h0 h1
          have a0 : ig.mode ≠ 0 := h0
          have a1 : ig.mode ≠ 1 := h1
          omega
    · simp only [callN] at hc ⊢
      cases hig : tbl f with
      | none => simp [modeOf, hig] at hm
      | some ig =>
        simp only [hig] at hc
        simp only [modeOf, hig] at hm
        simp only [hm] at hc ⊢
        simp only [Option.bind_eq_some_iff, Option.some.injEq, Prod.mk.injEq] at hc ⊢
        obtain ⟨a1, h1, r, h2', v', h3, h4, _⟩ := hc
        exact ⟨a1, h1, r, h2', v', h3, h4, trivial⟩

/-- THE TABLE IS SOUND: each function's code is the printed one (the kernel looks), each function that is proved by hand does what is said. -/
theorem table_sound (hmx : P.follows .mixedOrders = true) (hn : NatOK P nat) (ht : TabOK P (drawOK (modeOf tbl)) tbl) (k : Nat) : TableOK P (callN nat tbl k) :=
  callN_sound (okc := CallFoot (modeOf tbl)) (fun n => draw_sound hmx (modeOf tbl) n) hn (fun k => callN_foot k) ht k

end
end Go.Abs
