/-
  ONE OPERATION: calls; and the whole of one operation.
-/
import Derived.Test.YtagmcgbbgjkdbaaAbs15
set_option linter.all false
namespace Go.Abs
open Go

section
variable {P : Program} {B n na : Nat} {Γ Γ' : Imm} {L L' : Locs} {s s' s'' : St} {a : Act} {w w' : World} {H H' : Nat → Option Blk} {next next' base floor : Nat} {c : Ctx} {o : Oper} {io : IOper} {Q : Exit → Act → World → Prop}

def maskH (m : Nat → Bool) (H : Nat → Option Blk) : Nat → Option Blk := fun b => if m b then none else H b
def unmaskH (m : Nat → Bool) (H H' : Nat → Option Blk) : Nat → Option Blk := fun b => if m b then H b else H' b

theorem maskH_some {m : Nat → Bool} {b : Nat} {k : Blk} (h : maskH m H b = some k) : m b = false ∧ H b = some k := by
  unfold maskH at h
  split at h
  · cases h
  · rename_i hm; exact ⟨by simpa using hm, h⟩

theorem real_mask {m : Nat → Bool} {b r : Nat} (h : real L (maskH m H) b = some r) : m b = false ∧ real L H b = some r := by
  have : m b = false := by
    cases hm : m b with
    | false => rfl
    | true => simp [real, maskH, hm] at h
  exact ⟨this, by rw [← h]; exact (real_congr (by simp [maskH, this]) rfl fun _ => rfl).symm⟩

theorem real_unmasked {m : Nat → Bool} {b : Nat} (h : m b = false) : real L (maskH m H) b = real L H b := real_congr (by simp [maskH, h]) rfl fun _ => rfl

theorem HInv.mask (hi : HInv Γ L H next w) (m : Nat → Bool) : HInv Γ L (maskH m H) next w where
  imm := hi.imm
  cells b cs hb := hi.cells b cs (maskH_some hb).2
  perm b sz k hb := hi.perm b sz k (maskH_some hb).2
  map b es hb := hi.map b es (maskH_some hb).2
  inj b b' r h1 h2 := hi.inj b b' r (real_mask h1).2 (real_mask h2).2
  fresh b hb := by
    obtain ⟨g1, g2, g3⟩ := hi.fresh b hb
    refine ⟨?_, g2, g3⟩
    simp [maskH, g1]

/-- What a call did, with the blocks put back that it was not shown. -/
theorem unmask (hi : HInv Γ L H next w) (m : Nat → Bool) (hi' : HInv Γ' L' H' next' w') (hs : Since Γ L ⟨maskH m H, next, floor⟩ w Γ' L' ⟨H', next', floor⟩ w') (hbn : base ≤ next) :
    HInv Γ' L' (unmaskH m H H') next' w' ∧ Since Γ L ⟨H, base, floor⟩ w Γ' L' ⟨unmaskH m H H', next', floor⟩ w' := by
  have hlive : ∀ b k, H b = some k → b < next := by
    intro b k hb
    rcases Nat.lt_or_ge b next with h | h
    · exact h
    · rw [(hi.fresh b h).1] at hb; cases hb
  -- a masked block: nothing of it has turned
  have hm : ∀ b, m b = true → b < next → H' b = none ∧ L'.blk b = L.blk b ∧ ∀ k, L'.perm b k = L.perm b k := fun b hb hlt => hs.dead b hlt (by simp [maskH, hb])
  have hreal_m : ∀ b, m b = true → b < next → real L' (unmaskH m H H') b = real L H b := fun b hb hlt => by
    obtain ⟨_, h2, h3⟩ := hm b hb hlt
    exact real_congr (by simp [unmaskH, hb]) h2 h3
  have hreal_u : ∀ b, m b = false → real L' (unmaskH m H H') b = real L' H' b := fun b hb => real_congr (by simp [unmaskH, hb]) rfl fun _ => rfl
  have hkeep : ∀ b r, m b = true → real L H b = some r → w'.heap[r]? = w.heap[r]? ∧ Γ' r = Γ r := fun b r hb hr =>
    hs.block r (hi.real_lt hr) fun b' _ h => by
      obtain ⟨h1, h2⟩ := real_mask h
      have := hi.inj b' b r h2 hr
      subst this
      rw [hb] at h1; cases h1
  have hmH : ∀ b k, m b = true → unmaskH m H H' b = some k → H b = some k := fun b k hb h => by simpa [unmaskH, hb] using h
  have huH : ∀ b k, m b = false → unmaskH m H H' b = some k → H' b = some k := fun b k hb h => by simpa [unmaskH, hb] using h
  have hmrealb : ∀ b k, m b = true → H b = some k → b < next := fun b k _ h => hlive b k h
  constructor
  · refine ⟨hi'.imm, fun b cs hb => ?_, fun b sz k hb => ?_, fun b es hb => ?_, fun b1 b2 r h1 h2 => ?_, fun b hb => ?_⟩
    · cases hmb : m b with
      | true =>
        have hb' := hmH b _ hmb hb
        obtain ⟨r, arr, el, t, e, hw, hg, ht, hr⟩ := hi.cells b cs hb'
        obtain ⟨k1, k2⟩ := hkeep b r hmb (by simp [real, hb', e])
        obtain ⟨_, h2, _⟩ := hm b hmb (hlive b _ hb')
        exact ⟨r, arr, el, t, by rw [h2]; exact e, by rw [k1]; exact hw, by rw [k2]; exact hg, ht, hr.mono hs.imm hs.locs⟩
      | false => exact hi'.cells b cs (huH b _ hmb hb)
    · cases hmb : m b with
      | true =>
        have hb' := hmH b _ hmb hb
        obtain ⟨pl, e, hj, hn, hp⟩ := hi.perm b sz k hb'
        obtain ⟨_, _, h3⟩ := hm b hmb (hlive b _ hb')
        refine ⟨pl, by rw [h3]; exact e, fun j hjj => by rw [h3]; exact hj j hjj, hn, fun r cap hpl => ?_⟩
        obtain ⟨arr, el, gs, t, hw, hg, h⟩ := hp r cap hpl
        obtain ⟨k1, k2⟩ := hkeep b r hmb (by simp [real, hb', e, hpl])
        exact ⟨arr, el, gs, t, by rw [k1]; exact hw, by rw [k2]; exact hg, h⟩
      | false => exact hi'.perm b sz k (huH b _ hmb hb)
    · cases hmb : m b with
      | true =>
        have hb' := hmH b _ hmb hb
        obtain ⟨r, ms, clk, e, hw, hg, h3, h4⟩ := hi.map b es hb'
        obtain ⟨k1, k2⟩ := hkeep b r hmb (by simp [real, hb', e])
        obtain ⟨_, h2, _⟩ := hm b hmb (hlive b _ hb')
        exact ⟨r, ms, clk, by rw [h2]; exact e, by rw [k1]; exact hw, by rw [k2]; exact hg, h3.mono hs.imm hs.locs, h4.mono hs.imm hs.locs⟩
      | false => exact hi'.map b es (huH b _ hmb hb)
    · -- no two blocks share a place
      have live_lt : ∀ b r, m b = true → real L' (unmaskH m H H') b = some r → b < next := by
        intro b r hb h
        cases hHb : H b with
        | none => simp [real, unmaskH, hb, hHb] at h
        | some k => exact hlive b k hHb
      have cross : ∀ b1 b2, m b1 = true → m b2 = false → real L' (unmaskH m H H') b1 = some r → real L' (unmaskH m H H') b2 = some r → False := by
        intro b1 b2 hb1 hb2 h1 h2
        rw [hreal_m b1 hb1 (live_lt b1 r hb1 h1)] at h1
        rw [hreal_u b2 hb2] at h2
        have hrl := hi.real_lt h1
        have hh : real L (maskH m H) b2 = some r ∨ ∃ b', real L (maskH m H) b' = some r := by
          by_cases hf : b2 < floor
          · obtain ⟨g1, g2, g3⟩ := hs.low b2 hf
            left
            rw [← h2]
            exact (real_congr g3 g1 g2).symm
          · rcases hs.own b2 r (by show floor ≤ b2; omega) h2 with ⟨b', _, h⟩ | h
            · exact .inr ⟨b', h⟩
            · omega
        rcases hh with h | ⟨b', h⟩
        · obtain ⟨g1, g2⟩ := real_mask h
          have := hi.inj b2 b1 r g2 h1
          subst this
          rw [hb1] at g1; cases g1
        · obtain ⟨g1, g2⟩ := real_mask h
          have := hi.inj b' b1 r g2 h1
          subst this
          rw [hb1] at g1; cases g1
      cases hb1 : m b1 with
      | true =>
        cases hb2 : m b2 with
        | true =>
          rw [hreal_m b1 hb1 (live_lt b1 r hb1 h1)] at h1
          rw [hreal_m b2 hb2 (live_lt b2 r hb2 h2)] at h2
          exact hi.inj b1 b2 r h1 h2
        | false => exact (cross b1 b2 hb1 hb2 h1 h2).elim
      | false =>
        cases hb2 : m b2 with
        | true => exact (cross b2 b1 hb2 hb1 h2 h1).elim
        | false =>
          rw [hreal_u b1 hb1] at h1
          rw [hreal_u b2 hb2] at h2
          exact hi'.inj b1 b2 r h1 h2
    · obtain ⟨g1, g2, g3⟩ := hi'.fresh b hb
      have hbn' : next ≤ b := Nat.le_trans hs.next hb
      refine ⟨?_, g2, g3⟩
      simp only [unmaskH]
      split
      · exact (hi.fresh b hbn').1
      · exact g1
  · refine ⟨hs.imm, hs.locs, hs.os, hs.tape, hs.output, hs.size, fun r hr hn => hs.block r hr fun b hb h => hn b hb (real_mask h).2, fun b hb => ?_, fun b hb hn => ?_, fun b r hb hr => ?_, rfl, Nat.le_trans hbn hs.next⟩
    · obtain ⟨g1, g2, g3⟩ := hs.low b hb
      refine ⟨g1, g2, ?_⟩
      show unmaskH m H H' b = H b
      unfold unmaskH
      split
      · rfl
      · rename_i hmb
        have g3' : H' b = maskH m H b := g3
        rw [g3']
        simp [maskH, hmb]
    · have hb' : b < next := Nat.lt_of_lt_of_le hb hbn
      have hn' : H b = none := hn
      obtain ⟨g1, g2, g3⟩ := hs.dead b hb' (by show maskH m H b = none; simp [maskH, hn'])
      refine ⟨?_, g2, g3⟩
      show unmaskH m H H' b = none
      unfold unmaskH
      split
      · exact hn'
      · exact g1
    · cases hmb : m b with
      | true =>
        cases hHb : H b with
        | none =>
          have hr' : real L' (unmaskH m H H') b = some r := hr
          simp [real, unmaskH, hmb, hHb] at hr'
        | some k =>
          have hr' : real L' (unmaskH m H H') b = some r := hr
          rw [hreal_m b hmb (hlive b k hHb)] at hr'
          exact .inl ⟨b, hb, hr'⟩
      | false =>
        have hr' : real L' (unmaskH m H H') b = some r := hr
        rw [hreal_u b hmb] at hr'
        rcases hs.own b r hb hr' with ⟨b', h1, h2⟩ | h
        · exact .inl ⟨b', h1, (real_mask h2).2⟩
        · exact .inr h

/-- The functions of which the abstract machine speaks are there, and have a body. -/
def TableOK (P : Program) (call : CallF) : Prop :=
  ∀ f args h v h', call f args h = some (v, h') → h.floor ≤ h.next → CallOK P f args h v h' ∧ h'.floor = h.floor ∧ ∃ fn, P.funcs[f]? = some fn ∧ fn.body.isNone = false ∧ (fn.name == "runtime.NumGoroutine") = false

theorem run_callFunc {f : Nat} {fn : Func} (h1 : P.funcs[f]? = some fn) (h2 : fn.body.isNone = false) (h3 : (fn.name == "runtime.NumGoroutine") = false) (args : Array Value) : (callFunc f args).run P w = .ok (.enter f args) w := by
  simp only [callFunc, Sem.run_bind, run_program, Result.andThen_ok, h1, h3, h2, Bool.false_eq_true, if_false, Sem.run_pure]

theorem wp_call {call : CallF} (htbl : TableOK P call) (hg : Good c n Γ L s a.tmps w) (hcb : c.h.next ≤ base) (hfb : s.floor ≤ base) (hbn : base + na ≤ s.next) {f : Nat} {args : List V} {xs : List Value} {m : Nat → Bool} {r : V × St}
    (hargs : Reps Γ L args xs) (hc : callMasked call m f args s = some r) (hrun : (execOp a.eval o).run P w = (callFunc f xs.toArray).run P w)
    (hdst : io.dst = o.dst) (hdn : ∀ i, io.dst = some i → i < n) (hp : put r.2 io.dst (.val r.1) = some s'') {aid : Nat} :
    o.wp P a w (After c n base na aid L s a s'') Q := by
  unfold callMasked at hc
  rw [Option.bind_eq_some_iff] at hc
  obtain ⟨⟨v, h'⟩, hcall, he⟩ := hc
  injection he with he
  subst he
  obtain ⟨hok, hfl, fn, f1, f2, f3⟩ := htbl _ _ _ _ _ hcall (by show s.floor ≤ s.next; omega)
  have hcalls := hok Γ L w xs (hg.f.heap.mask m) hargs
  unfold Oper.wp
  rw [hrun, run_callFunc f1 f2 f3]
  simp only [Oper.upon]
  refine hcalls.mono fun e w1 => ?_
  rintro ⟨x, Γ', L', rfl, hr, hi, hs⟩
  simp only []
  obtain ⟨H', next', floor'⟩ := h'
  simp only at hfl hi hs hp
  subst hfl
  obtain ⟨hi2, hs2⟩ := unmask (base := base) hg.f.heap m hi hs (by omega)
  rw [← hdst]
  refine ⟨Γ', L', (hg.heap hi2 hs2 hcb).put hdn hp (sl := .val v) hr, put_defers' _ _, by rw [put_next hp]; exact hs.next, fun b hb _ hf => ?_⟩
  rw [put_H hp]
  obtain ⟨g1, g2, g3⟩ := hs.dead b (by show b < s.next; omega) (by show maskH m s.H b = none; simp [maskH, hf.1])
  refine ⟨?_, g2.trans hf.2.1, fun j => (g3 j).trans (hf.2.2 j)⟩
  show (if m b then s.H b else H' b) = none
  split
  · exact hf.1
  · exact g1

theorem op_call {call : CallF} (htbl : TableOK P call) (hg : Good c n Γ L s a.tmps w) (hcb : c.h.next ≤ base) (hfb : s.floor ≤ base) (hbn : base + na ≤ s.next) {f : Nat} {args : List Opd} {Args : Array Operand} {ts : Array TypeId} {m : Nat → Bool} {vs : List V} {r : V × St}
    (ho : o.op = .call { callee := .value (.func f), args := Args, argTypes := ts }) (hargs : okOpds args Args.toList = true) (hvs : Opd.evals s.E args = some vs) (hc : callMasked call m f vs s = some r)
    (hdst : io.dst = o.dst) (hdn : ∀ i, io.dst = some i → i < n) (hp : put r.2 io.dst (.val r.1) = some s'') {aid : Nat} :
    o.wp P a w (After c n base na aid L s a s'') Q := by
  refine wp_call htbl hg hcb hfb hbn (opds_reps hg.f hargs hvs) hc ?_ hdst hdn hp
  have : (Args.toList.map a.eval).toArray = Args.map a.eval := by apply Array.ext'; simp
  rw [this]
  simp [execOp, ho, resolve, Act.eval, Deferred.ofValue, invoke]

theorem op_callv {call : CallF} (htbl : TableOK P call) (hg : Good c n Γ L s a.tmps w) (hcb : c.h.next ≤ base) (hfb : s.floor ≤ base) (hbn : base + na ≤ s.next) {x : Opd} {X : Operand} {f : Nat} {cap : List V} {args : List Opd} {Args : Array Operand} {ts : Array TypeId} {m : Nat → Bool} {vs : List V} {r : V × St}
    (ho : o.op = .call { callee := .value X, args := Args, argTypes := ts }) (hx : okOpd x X = true) (hv : x.eval s.E = some (.fn f cap)) (hargs : okOpds args Args.toList = true) (hvs : Opd.evals s.E args = some vs) (hc : callMasked call m f (vs ++ cap) s = some r)
    (hdst : io.dst = o.dst) (hdn : ∀ i, io.dst = some i → i < n) (hp : put r.2 io.dst (.val r.1) = some s'') {aid : Nat} :
    o.wp P a w (After c n base na aid L s a s'') Q := by
  obtain ⟨xs, e, hxs⟩ := (opd_rep hg.f hx hv).inv_fn
  refine wp_call htbl hg hcb hfb hbn ((opds_reps hg.f hargs hvs).append hxs) hc ?_ hdst hdn hp
  have : (Args.toList.map a.eval ++ xs).toArray = Args.map a.eval ++ xs.toArray := by apply Array.ext'; simp
  rw [this]
  simp [execOp, ho, resolve, e, Deferred.ofValue, invoke]

end
end Go.Abs
