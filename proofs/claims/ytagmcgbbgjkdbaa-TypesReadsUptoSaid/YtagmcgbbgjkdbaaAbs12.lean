/-
  ONE OPERATION: whatever the abstract machine says of it, the model does.
-/
import Derived.Test.YtagmcgbbgjkdbaaAbs11
set_option linter.all false
namespace Go.Abs
open Go

def IOp.usesAid : IOp → Bool
  | .allocH _ | .boxH _ | .newPerm _ | .mkslice .. | .mkmap => true
  | .append md .. => decide (md ≠ 2)
  | .buildS mu .. => mu
  | _ => false

section
variable {P : Program} {B n na : Nat} {Γ Γ' : Imm} {L L' : Locs} {s s' s'' : St} {a : Act} {w w' : World} {H H' : Nat → Option Blk} {next next' base floor : Nat} {c : Ctx} {o : Oper} {io : IOper} {Q : Exit → Act → World → Prop}

/-- What holds behind an operation. -/
def After (c : Ctx) (n : Nat) (base na aid : Nat) (L : Locs) (s : St) (a : Act) (s'' : St) (a' : Act) (w' : World) : Prop :=
  ∃ Γ' L', Good c n Γ' L' s'' a'.tmps w' ∧ a'.defers = a.defers ∧ s.next ≤ s''.next ∧ ∀ b, b < base + na → b ≠ base + aid → Free L s.H b → Free L' s''.H b

theorem put_defers' (d : Option Nat) (x : Value) : (a.put d x).defers = a.defers := by cases d <;> rfl

theorem put_next {d : Option Nat} {x : Slot} (h : put s d x = some s') : s'.next = s.next := congrArg HS.next (put_hs h)

theorem put_H {d : Option Nat} {x : Slot} (h : put s d x = some s') : s'.H = s.H := congrArg HS.H (put_hs h)

theorem wp_value' (hg : Good c n Γ L s a.tmps w) {v : V} {x : Value} (hrun : (execOp a.eval o).run P w = .ok (.value x) w') (he : Ext0 Γ w Γ' w') (hr : Rep Γ' L v x)
    (hdst : io.dst = o.dst) (hdn : ∀ i, io.dst = some i → i < n) (hp : put s io.dst (.val v) = some s'') {aid : Nat} :
    o.wp P a w (After c n base na aid L s a s'') Q := by
  unfold Oper.wp
  rw [hrun]
  simp only [Oper.upon]
  rw [← hdst]
  exact ⟨Γ', L, (hg.ext0 he).put hdn hp hr, put_defers' _ _, Nat.le_of_eq (put_next hp).symm, fun b _ _ hf => by rw [put_H hp]; exact hf⟩

theorem wp_value (hg : Good c n Γ L s a.tmps w) {m : Sem Value} {v : V} (hrun : (execOp a.eval o).run P w = (m.run P w).andThen fun x w' => .ok (.value x) w') (hv : VOK P Γ L w m v)
    (hdst : io.dst = o.dst) (hdn : ∀ i, io.dst = some i → i < n) (hp : put s io.dst (.val v) = some s'') {aid : Nat} :
    o.wp P a w (After c n base na aid L s a s'') Q := by
  obtain ⟨x, w', Γ', h1, h2, h3⟩ := hv
  exact wp_value' hg (by rw [hrun, h1]; rfl) h2 h3 hdst hdn hp

/-- An address goes to a slot. -/
theorem wp_addr (hg : Good c n Γ L s a.tmps w) {av : AV} {x : Value} (hrun : (execOp a.eval o).run P w = .ok (.value x) w) (hA : AOK Γ L s a.tmps w av x)
    (hdst : io.dst = o.dst) (hdn : ∀ i, io.dst = some i → i < n) (hp : put s io.dst av.slot = some s'') {aid : Nat} :
    o.wp P a w (After c n base na aid L s a s'') Q := by
  unfold Oper.wp
  rw [hrun]
  simp only [Oper.upon]
  rw [← hdst]
  refine ⟨Γ, L, hg.put hdn hp ?_, put_defers' _ _, Nat.le_of_eq (put_next hp).symm, fun b _ _ hf => by rw [put_H hp]; exact hf⟩
  cases av with
  | loc t o' => obtain ⟨cs, r, h1, h2, h3⟩ := hA; exact ⟨cs, r, h1, h2, h3⟩
  | ref b o' => obtain ⟨r, h1, rfl⟩ := hA; exact .ref b o' r h1
  | imm cs => exact hA

/-- Memory has turned, and a value goes to a slot (or nothing does). -/
theorem wp_heap {tmps : Array Value} (htm : tmps = a.tmps) {s1 : St} (hg : Good c n Γ' L' s1 tmps w') {sl : Slot} {x : Value} (hrun : (execOp a.eval o).run P w = .ok (.value x) w' ∨ ((execOp a.eval o).run P w = .ok .skip w' ∧ x = Go.undef)) (hr : SlotRep Γ' L' s1 tmps sl x)
    (hdst : io.dst = o.dst) (hdn : ∀ i, io.dst = some i → i < n) (hp : put s1 io.dst sl = some s'') {aid : Nat} (hnx : s.next ≤ s1.next) (hfree : ∀ b, b < base + na → b ≠ base + aid → Free L s.H b → Free L' s1.H b) :
    o.wp P a w (After c n base na aid L s a s'') Q := by
  subst htm
  have key : After c n base na aid L s a s'' (a.put o.dst x) w' := by
    rw [← hdst]
    exact ⟨Γ', L', hg.put hdn hp hr, put_defers' _ _, by rw [put_next hp]; exact hnx, fun b h1 h2 hf => by rw [put_H hp]; exact hfree b h1 h2 hf⟩
  unfold Oper.wp
  rcases hrun with hrun | ⟨hrun, rfl⟩
  · rw [hrun]; exact key
  · rw [hrun]; exact key

theorem op_mov (hg : Good c n Γ L s a.tmps w) {x : Opd} {X : Operand} (hx : okOpd x X = true) (hrun : (execOp a.eval o).run P w = .ok (.value (a.eval X)) w)
    (hdst : io.dst = o.dst) (hdn : ∀ i, io.dst = some i → i < n) {sl : Slot} {s' : St}
    (hr : movR s x = some (sl, s')) (hp : put s' io.dst sl = some s'') {aid : Nat} :
    o.wp P a w (After c n base na aid L s a s'') Q := by
  have val : ∀ v, x.eval s.E = some v → put s io.dst (.val v) = some s'' → o.wp P a w (After c n base na aid L s a s'') Q := fun v hv hp =>
    wp_value' hg hrun (.refl hg.f.heap) (opd_rep hg.f hx hv) hdst hdn hp
  unfold movR at hr
  cases x with
  | k v =>
    simp only [Option.some.injEq, Prod.mk.injEq] at hr
    obtain ⟨rfl, rfl⟩ := hr
    exact val v rfl hp
  | t i =>
    cases he : s.E i with
    | undef => simp [he] at hr
    | val v =>
      simp only [he, Option.some.injEq, Prod.mk.injEq] at hr
      obtain ⟨rfl, rfl⟩ := hr
      exact val v (by simp [Opd.eval, he]) hp
    | var cs =>
      simp only [he, Option.some.injEq, Prod.mk.injEq] at hr
      obtain ⟨rfl, rfl⟩ := hr
      have hA : addrOf s.E (.t i) = some (.loc i 0) := by simp [addrOf, he]
      exact wp_addr hg hrun (addr_ok hg.f hx hA) hdst hdn hp
    | lref t o' =>
      simp only [he, Option.some.injEq, Prod.mk.injEq] at hr
      obtain ⟨rfl, rfl⟩ := hr
      have hA : addrOf s.E (.t i) = some (.loc t o') := by simp [addrOf, he]
      exact wp_addr hg hrun (addr_ok hg.f hx hA) hdst hdn hp

theorem op_nilchk (hg : Good c n Γ L s a.tmps w) {x : Opd} {X : Operand} (hx : okOpd x X = true) (ho : o.op = .nilCheck X)
    (hdst : io.dst = o.dst) (hdn : ∀ i, io.dst = some i → i < n) {sl : Slot}
    (hr : (match addrOf s.E x with
    | some a => some (a.slot, s)
    | none => ((x.eval s.E).bind nilR).bind fun v => some (.val v, s)) = some (sl, s')) (hp : put s' io.dst sl = some s'') {aid : Nat} :
    o.wp P a w (After c n base na aid L s a s'') Q := by
  cases hA : addrOf s.E x with
  | some av =>
    rw [hA] at hr
    simp only [Option.some.injEq, Prod.mk.injEq] at hr
    obtain ⟨rfl, rfl⟩ := hr
    have hok := addr_ok hg.f hx hA
    obtain ⟨r, k, e⟩ := aok_ptr hok
    refine wp_addr hg (x := a.eval X) ?_ hok hdst hdn hp
    simp [execOp, ho, e]
  | none =>
    rw [hA] at hr
    simp only [Option.bind_eq_some_iff, Option.some.injEq, Prod.mk.injEq] at hr
    obtain ⟨v, ⟨u, hu, hv⟩, rfl, rfl⟩ := hr
    cases u <;> simp only [nilR, reduceCtorEq, Option.some.injEq] at hv
    subst hv
    have hrep := opd_rep hg.f hx hu
    obtain ⟨xs, e, _⟩ := hrep.inv_fn
    refine wp_value' hg (x := a.eval X) ?_ (.refl hg.f.heap) hrep hdst hdn hp
    simp [execOp, ho, e]

theorem tFieldNe_spec {t : TypeId} {f off : Nat} (h : tFieldNe P t f off = true) : ∃ fs fd i, P.underlying t = some (.struct fs) ∧ fs[f]? = some fd ∧ fd.offset = off ∧ P.info? fd.type = some i ∧ i.size ≠ 0 := by
  unfold tFieldNe at h
  split at h
  · rename_i fs hu
    split at h
    · rename_i fd hf
      rw [Bool.and_eq_true] at h
      obtain ⟨h1, h2⟩ := h
      split at h2
      · rename_i i hi; exact ⟨fs, fd, i, hu, hf, of_decide_eq_true h1, hi, of_decide_eq_true h2⟩
      · cases h2
    · cases h
  · cases h

theorem op_faddr (hg : Good c n Γ L s a.tmps w) {x : Opd} {X : Operand} {t : TypeId} {f off : Nat} {av : AV} (hx : okOpd x X = true) (ht : tFieldNe P t f off = true) (ho : o.op = .fieldAddr t X f)
    (hA : addrOf s.E x = some av) (hdst : io.dst = o.dst) (hdn : ∀ i, io.dst = some i → i < n) (hp : put s io.dst (av.add off).slot = some s'') {aid : Nat} :
    o.wp P a w (After c n base na aid L s a s'') Q := by
  have hok := addr_ok hg.f hx hA
  obtain ⟨r, k, e⟩ := aok_ptr hok
  rw [e] at hok
  obtain ⟨fs, fd, i, hu, hf, rfl, hi, hne⟩ := tFieldNe_spec ht
  refine wp_addr hg (x := ptr r (k + fd.offset)) ?_ (aok_add hok _) hdst hdn hp
  simp [execOp, ho, e, Instr.fieldAt, run_underlying hu, hf, Instr.sureAddr, fieldPlace, sizeOf, typeInfo, hi, hne, addr_add]

theorem op_iaddrA (hg : Good c n Γ L s a.tmps w) {x j : Opd} {X J : Operand} {t e : TypeId} {len sz i : Nat} {iv : V} {av : AV} (hx : okOpd x X = true) (hj : okOpd j J = true) (ht : tArr P t len sz = some e) (ho : o.op = .indexAddr t X J)
    (hA : addrOf s.E x = some av) (hi : j.eval s.E = some iv) (hn : idx? iv len = some i) (hdst : io.dst = o.dst) (hdn : ∀ i, io.dst = some i → i < n) (hp : put s io.dst (av.add (i * sz)).slot = some s'') {aid : Nat} :
    o.wp P a w (After c n base na aid L s a s'') Q := by
  have hok := addr_ok hg.f hx hA
  obtain ⟨r, k, e'⟩ := aok_ptr hok
  rw [e'] at hok
  obtain ⟨ik, rfl, hlt⟩ := idx_spec hn
  have hJ := (opd_rep hg.f hj hi).inv_int
  obtain ⟨hu, hs⟩ := tArr_spec ht
  refine wp_addr hg (x := ptr r (k + i * sz)) ?_ (aok_add hok _) hdst hdn hp
  have hc : (0 : Int) ≤ (i : Int) ∧ (i : Int) < (len : Int) := by omega
  simp [execOp, ho, e', hJ, Instr.indexAt, asIntOf, run_underlying hu, Instr.sureAddr, hlt, run_size hs, addr_add]

end
end Go.Abs
