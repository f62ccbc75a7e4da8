/-
  THE WHOLE OF ONE OPERATION.
-/
import Derived.Test.YtagmcgbbgjkdbaaAbsS
set_option linter.all false
namespace Go.Abs
open Go

section
variable {P : Program} {B n na : Nat} {Γ Γ' : Imm} {L L' : Locs} {s s' s'' : St} {a : Act} {w w' : World} {H H' : Nat → Option Blk} {next next' base floor : Nat} {c : Ctx} {o : Oper} {io : IOper} {Q : Exit → Act → World → Prop}

theorem ok_sliceA (hf : FInv B n Γ L s a.tmps w) {t et : TypeId} {len sz : Nat} {x : Opd} {X : Operand} {lo hi : Option Opd} {Lo Hi : Option Operand} {av : AV} {h l : Nat} (ht : tArr P t len sz = some et)
    (hx : okOpd x X = true) (okl : okOpt lo Lo = true) (okh : okOpt hi Hi = true) (hA : addrOf s.E x = some av) (hh : bnd? s.E hi len len = some h) (hl : bnd? s.E lo 0 h = some l) {v : V}
    (hv : (match av with
      | .ref b off => some (.buf b (off + l * sz) sz (h - l))
      | .imm cs => (getCells cs (l * sz) ((h - l) * sz)).bind fun c => some (.list .no (chunks sz (h - l) c))
      | .loc _ _ => none) = some v) :
    VOK P Γ L w (Instr.sliceAt t (a.eval X) (Lo.map a.eval) (Hi.map a.eval) none) v := by
  have hok := addr_ok hf hx hA
  obtain ⟨r, k, e⟩ := aok_ptr hok
  rw [e] at hok ⊢
  obtain ⟨hu, hsz⟩ := tArr_spec ht
  obtain ⟨hrun, h1, h2⟩ := run_bounds (P := P) hf false okl okh (Nat.le_refl _) hh hl
  have hrun2 : (Instr.sliceAt t (ptr r k) (Lo.map a.eval) (Hi.map a.eval) none).run P w = .ok (.slice (some (if len = l then ⟨r, k, none⟩ else ⟨r, k + l * sz, none⟩)) (h - l) (len - l)) w := by
    simp [Instr.sliceAt, run_underlying hu, Instr.sureAddr, hrun, run_size hsz, addr_add]
  cases av with
  | loc t' o' => cases hv
  | ref b off =>
    simp only [Option.some.injEq] at hv
    subst hv
    obtain ⟨r', hb, e'⟩ := hok
    injection e' with e'; injection e' with e'; injection e' with e1 e2
    subst e1; subst e2
    refine .here hf.heap hrun2 (.buf b _ sz _ r _ _ hb (fun hne => ?_) (by omega))
    rw [if_neg (by omega)]
  | imm cs =>
    simp only [Option.bind_eq_some_iff, Option.some.injEq] at hv
    obtain ⟨cells, hg, rfl⟩ := hv
    refine .here hf.heap hrun2 ?_
    have hlen := getCells_length hg
    by_cases h0 : h - l = 0
    · rw [h0]
      simp only [chunks]
      exact .list .no [] _ _ sz [] (fun _ _ => Go.undef) (by simp) (by simp) (by simp) (by simp) (by simp) (by simp) (by simp)
    · rw [if_neg (by omega)]
      cases hok with
      | pim _ _ _ gs vals hgr hvv hrr =>
        have hg' := hg
        obtain ⟨g1, rfl⟩ := getCells_spec hg
        refine list_of_cells (gs := gs) (xs := (List.range ((h - l) * sz)).map fun j => vals (l * sz + j)) hgr (fun j x hxj => ?_) ⟨by simp; omega, fun j cv x hcv hxj => ?_⟩ hlen (by omega) (fun h => by cases h) (fun b h => by cases h)
        · have hj : j < (h - l) * sz := by have := (List.getElem?_eq_some_iff.1 hxj).1; simpa using this
          rw [List.getElem?_map, List.getElem?_range hj] at hxj
          injection hxj with hxj
          subst hxj
          obtain ⟨cv, hcv⟩ : ∃ cv, cs[l * sz + j]? = some cv := ⟨cs[l * sz + j]'(by omega), List.getElem?_eq_getElem _⟩
          have := hvv _ cv hcv
          rw [← Nat.add_assoc] at this
          exact this
        · have hj : j < (h - l) * sz := by have := (List.getElem?_eq_some_iff.1 hxj).1; simpa using this
          rw [List.getElem?_map, List.getElem?_range hj] at hxj
          injection hxj with hxj
          subst hxj
          rw [getCells_get hg' hj] at hcv
          exact hrr _ cv hcv

theorem okAppend_spec {t u : TypeId} {sz : Nat} (h0 : 0 < sz) (h1 : (match tElem P t sz with
      | some e => tBytes P e && (match P.info? e with | some ie => (match ie.zero with | some z => decide (z.cells.size = sz) | none => false) | none => false)
      | none => false) = true) (h2 : (match P.underlying u with | some (.slice _) | some .string => true | _ => false) = true) : AppendOK P sz t u := by
  refine ⟨h0, ?_, ?_⟩
  · split at h1
    · rename_i e he
      rw [Bool.and_eq_true] at h1
      obtain ⟨hb, h1⟩ := h1
      obtain ⟨hu, hs⟩ := tElem_spec he
      split at h1
      · rename_i ie hie
        split at h1
        · rename_i z hz
          refine ⟨e, ie, z, hu, hs, hie, ?_, hz, of_decide_eq_true h1⟩
          unfold tBytes at hb
          rw [hie] at hb
          exact of_decide_eq_true hb
        · cases h1
      · cases h1
    · cases h1
  · split at h2
    · rename_i e' hu; exact .inl ⟨e', hu⟩
    · rename_i hu; exact .inr hu
    · cases h2

theorem eval_slice (hf : FInv B n Γ L s a.tmps w) {x : Opd} {X : Operand} {v : V} (hx : okOpd x X = true) (hv : x.eval s.E = some v) (hs : (∃ p es, v = .list p es) ∨ ∃ b o z k, v = .buf b o z k) : ∃ base' k cap, a.eval X = .slice base' k cap ∧ k ≤ cap := by
  have hr := opd_rep hf hx hv
  rcases hs with ⟨p, es, rfl⟩ | ⟨b, o, z, k, rfl⟩
  · obtain ⟨ad, cap, _, _, _, e, _, _, _, _, h, _⟩ := hr.inv_list
    exact ⟨ad, _, cap, e, h⟩
  · cases hX : a.eval X <;> rw [hX] at hr <;> cases hr
    exact ⟨_, _, _, rfl, by assumption⟩


def okGuard (ops : Array Oper) : Option (Nat × Bool) → Option (Nat × Bool) → Bool
  | none, none => true
  | some (t, b), some (j, b') => decide (b = b') && decide ((ops[j]?).bind (·.dst) = some t)
  | _, _ => false

def okOper (P : Program) (n na : Nat) (ops : Array Oper) (io : IOper) (o : Oper) : Bool :=
  decide (io.dst = o.dst) && (match io.dst with | some d => decide (d < n) | none => true) && okGuard ops io.guard o.guard && (if io.op.usesAid then decide (io.aid < na) else decide (io.aid = na)) && okOp P io o

theorem pureV_spec {v : Option V} {sl : Slot} (h : (v.bind fun v => some (Slot.val v, s)) = some (sl, s')) : ∃ u, v = some u ∧ sl = .val u ∧ s' = s := by
  rw [Option.bind_eq_some_iff] at h
  obtain ⟨u, hu, h⟩ := h
  injection h with h
  injection h with h1 h2
  exact ⟨u, hu, h1.symm, h2.symm⟩

theorem opCall_spec {op : Op} {ce : Callee} {as : List Operand} {ts : List TypeId} (h : opCall op = some (ce, as, ts)) : op = .call { callee := ce, args := as.toArray, argTypes := ts.toArray } := by
  unfold opCall at h
  split at h
  · rename_i c
    simp only [Option.some.injEq, Prod.mk.injEq] at h
    obtain ⟨rfl, rfl, rfl⟩ := h
    cases c; simp
  · cases h

theorem run_v (m : Sem Value) (w : World) : ((do pure (Next.value (← m))) : Sem Next).run P w = (m.run P w).andThen fun x w' => .ok (.value x) w' := by
  rw [Sem.run_bind]; rfl

set_option maxHeartbeats 1000000 in
theorem op_sound {call : CallF} (htbl : TableOK P call) (hg : Good c n Γ L s a.tmps w) (hcb : c.h.next ≤ base) (hfb : s.floor ≤ base) (hbn : base + na ≤ s.next) (haid : io.op.usesAid = true → io.aid < na ∧ Free L s.H (base + io.aid))
    (ok : okOp P io o = true) (hdst : io.dst = o.dst) (hdn : ∀ i, io.dst = some i → i < n) {sl : Slot} (hr : runOp call base io s = some (sl, s')) (hp : put s' io.dst sl = some s'') :
    o.wp P a w (After c n base na io.aid L s a s'') Q := by
  have pl : Place c base na L s io := ⟨hcb, hfb, hbn, haid⟩
  have hf := hg.f
  cases hop : io.op with
  | mov x =>
    simp only [okOp, hop] at ok
    simp only [runOp, hop] at hr
    split at ok
    · rename_i y ho
      exact op_mov hg ok (by simp [execOp, ho]) hdst hdn hr hp
    · rename_i y ho
      exact op_mov hg ok (by simp [execOp, ho]) hdst hdn hr hp
    · split at ok
      · rename_i arg t ho
        have ho := opCall_spec ho
        split at ok
        · rename_i k m e hun
          have := of_decide_eq_true ok
          subst this
          simp only [movR, Option.some.injEq, Prod.mk.injEq] at hr
          obtain ⟨rfl, rfl⟩ := hr
          exact wp_value' hg (x := .int .i64 (m : Int)) (by simp [execOp, ho, resolve, invoke, builtin, Builtin.len_, run_underlying hun, goInt]) (.refl hf.heap) (.int _ _) hdst hdn hp
        · cases ok
      · cases ok
  | pick x y z =>
    simp only [okOp, hop] at ok
    simp only [runOp, hop] at hr
    split at ok
    · rename_i X Y Z ho
      rw [Bool.and_eq_true, Bool.and_eq_true] at ok
      obtain ⟨u, hu, rfl, rfl⟩ := pureV_spec hr
      rw [Option.bind_eq_some_iff] at hu
      obtain ⟨cv, hcv, hu⟩ := hu
      cases cv <;> simp only [reduceCtorEq] at hu
      obtain ⟨x', h1, h2⟩ := ok_pick (P := P) hf ok.1.1 ok.1.2 ok.2 hcv hu
      refine wp_value' hg (x := x') ?_ (.refl hf.heap) h2 hdst hdn hp
      rw [← h1]
      simp [execOp, ho]
    · cases ok
  | allocV zero =>
    simp only [okOp, hop] at ok
    simp only [runOp, hop, Option.some.injEq, Prod.mk.injEq] at hr
    obtain ⟨rfl, rfl⟩ := hr
    split at ok
    · rename_i t ho; exact op_allocV hg ok ho hdst hdn hp
    · cases ok
  | boxV x =>
    simp only [okOp, hop] at ok
    simp only [runOp, hop, Option.bind_eq_some_iff, Option.some.injEq, Prod.mk.injEq] at hr
    obtain ⟨v, hv, rfl, rfl⟩ := hr
    split at ok
    · rename_i t X ho; exact op_boxV hg ok hv ho hdst hdn hp
    · cases ok
  | allocH zero =>
    simp only [okOp, hop] at ok
    simp only [runOp, hop, Option.some.injEq, Prod.mk.injEq] at hr
    obtain ⟨rfl, rfl⟩ := hr
    split at ok
    · rename_i t ho; exact op_allocH hg pl (by rw [hop]; rfl) ok ho hdst hdn hp
    · cases ok
  | boxH x =>
    simp only [okOp, hop] at ok
    simp only [runOp, hop, Option.bind_eq_some_iff, Option.some.injEq, Prod.mk.injEq] at hr
    obtain ⟨v, hv, rfl, rfl⟩ := hr
    split at ok
    · rename_i t X ho; exact op_boxH hg pl (by rw [hop]; rfl) ok hv ho hdst hdn hp
    · cases ok
  | newPerm sz =>
    simp only [okOp, hop] at ok
    simp only [runOp, hop, Option.some.injEq, Prod.mk.injEq] at hr
    obtain ⟨rfl, rfl⟩ := hr
    split at ok
    · rename_i ho; exact op_newPerm hg pl (by rw [hop]; rfl) (by simp [execOp, ho, Act.eval]) hdst hdn hp
    · rename_i ho; exact op_newPerm hg pl (by rw [hop]; rfl) (by simp [execOp, ho, Act.eval]) hdst hdn hp
    · cases ok
  | load agg k x =>
    simp only [okOp, hop] at ok
    simp only [runOp, hop] at hr
    split at ok
    · rename_i t X ho
      simp only [Bool.and_eq_true] at ok
      obtain ⟨u, hu, rfl, rfl⟩ := pureV_spec hr
      rw [Option.bind_eq_some_iff] at hu
      obtain ⟨av, hav, hu⟩ := hu
      replace hav := (addrF_spec hav).1
      rw [Option.bind_eq_some_iff] at hu
      obtain ⟨out, hout, hu⟩ := hu
      exact wp_value hg (m := Instr.loadAt t (a.eval X)) (by simp [execOp, ho]) (ok_load hf ok.1.1.1 ok.1.1.2 ok.2 hav hout hu) hdst hdn hp
    · cases ok
  | store k x v =>
    simp only [okOp, hop] at ok
    simp only [runOp, hop, Option.bind_eq_some_iff] at hr
    obtain ⟨av, hav, u, hu, hr⟩ := hr
    replace hav := (addrF_spec hav).1
    split at ok
    · rename_i t X Y ho
      simp only [Bool.and_eq_true] at ok
      split at hr
      · rename_i hcond
        rw [Option.bind_eq_some_iff] at hr
        obtain ⟨s1, hs1, hr⟩ := hr
        simp only [Option.some.injEq, Prod.mk.injEq] at hr
        obtain ⟨rfl, rfl⟩ := hr
        obtain ⟨w1, hrun, hg1, hfree, h1, h2⟩ := store_ok (base := base) hg (by omega) hcb ok.1.1 ok.1.2 ok.2 hav hu hcond.1 hcond.2 hs1
        refine wp_heap (sl := .val .undef) rfl hg1 (.inr ⟨?_, rfl⟩) (show Rep _ _ .undef _ from .undef) hdst hdn hp (Nat.le_of_eq h1.symm) fun b _ _ hb => hfree b hb
        simp [execOp, ho, hrun]
      · cases hr
    · cases ok
  | faddr off x =>
    simp only [okOp, hop] at ok
    simp only [runOp, hop, Option.bind_eq_some_iff, Option.some.injEq, Prod.mk.injEq] at hr
    obtain ⟨av, hav, rfl, rfl⟩ := hr
    split at ok
    · rename_i t X f ho
      rw [Bool.and_eq_true] at ok
      exact op_faddr hg ok.2 ok.1 ho hav hdst hdn hp
    · cases ok
  | field agg off k x =>
    simp only [okOp, hop] at ok
    simp only [runOp, hop] at hr
    split at ok
    · rename_i t X f ho
      rw [Bool.and_eq_true] at ok
      obtain ⟨u, hu, rfl, rfl⟩ := pureV_spec hr
      rw [Option.bind_eq_some_iff] at hu
      obtain ⟨v, hv, hu⟩ := hu
      cases v <;> simp only [reduceCtorEq] at hu
      rw [Option.bind_eq_some_iff] at hu
      obtain ⟨out, hout, hu⟩ := hu
      obtain ⟨ok1, ok2⟩ := ok
      split at ok1
      · rename_i tf htf
        rw [Bool.and_eq_true] at ok1
        exact wp_value hg (m := Instr.field t (a.eval X) f) (by simp [execOp, ho]) (ok_field hf htf ok1.1 ok2 hv hout hu) hdst hdn hp
      · cases ok1
    · cases ok
  | iaddrA len sz x i =>
    simp only [okOp, hop] at ok
    simp only [runOp, hop, Option.bind_eq_some_iff, Option.some.injEq, Prod.mk.injEq] at hr
    obtain ⟨av, hav, iv, hiv, j, hj, rfl, rfl⟩ := hr
    split at ok
    · rename_i t X J ho
      simp only [Bool.and_eq_true] at ok
      obtain ⟨e, he⟩ := Option.isSome_iff_exists.1 ok.1.1
      exact op_iaddrA hg ok.1.2 ok.2 he ho hav hiv hj hdst hdn hp
    · cases ok
  | iaddrS sz x i =>
    simp only [okOp, hop] at ok
    simp only [runOp, hop] at hr
    split at ok
    · rename_i t X J ho
      simp only [Bool.and_eq_true] at ok
      obtain ⟨e, he⟩ := Option.isSome_iff_exists.1 ok.1.1
      obtain ⟨u, hu, rfl, rfl⟩ := pureV_spec hr
      rw [Option.bind_eq_some_iff] at hu
      obtain ⟨v, hv, hu⟩ := hu
      rw [Option.bind_eq_some_iff] at hu
      obtain ⟨iv, hiv, hu⟩ := hu
      cases v <;> simp only [reduceCtorEq] at hu
      · rw [Option.bind_eq_some_iff] at hu
        obtain ⟨j, hj, hu⟩ := hu
        rw [Option.bind_eq_some_iff] at hu
        obtain ⟨el, hel, hu⟩ := hu
        split at hu
        · rename_i hsz
          injection hu with hu
          subst hu
          exact wp_value hg (m := Instr.indexAt t (a.eval X) (a.eval J)) (by simp [execOp, ho]) (ok_iaddrS hf he ok.1.2 ok.2 hv hiv hj hel hsz) hdst hdn hp
        · cases hu
      · split at hu
        · rename_i hsz
          subst hsz
          rw [Option.bind_eq_some_iff] at hu
          obtain ⟨j, hj, hu⟩ := hu
          injection hu with hu
          subst hu
          exact wp_value hg (m := Instr.indexAt t (a.eval X) (a.eval J)) (by simp [execOp, ho]) (ok_iaddrB hf he ok.1.2 ok.2 hv hiv hj) hdst hdn hp
        · cases hu
    · cases ok
  | idxA agg len sz x i =>
    simp only [okOp, hop] at ok
    simp only [runOp, hop] at hr
    split at ok
    · rename_i t X J ho
      simp only [Bool.and_eq_true] at ok
      obtain ⟨⟨ok1, ok2⟩, ok3⟩ := ok
      obtain ⟨u, hu, rfl, rfl⟩ := pureV_spec hr
      rw [Option.bind_eq_some_iff] at hu
      obtain ⟨v, hv, hu⟩ := hu
      rw [Option.bind_eq_some_iff] at hu
      obtain ⟨iv, hiv, hu⟩ := hu
      cases v <;> simp only [reduceCtorEq] at hu
      rw [Option.bind_eq_some_iff] at hu
      obtain ⟨j, hj, hu⟩ := hu
      rw [Option.bind_eq_some_iff] at hu
      obtain ⟨out, hout, hu⟩ := hu
      split at ok1
      · rename_i e he
        rw [Bool.and_eq_true] at ok1
        exact wp_value hg (m := Instr.index t (a.eval X) (a.eval J)) (by simp [execOp, ho]) (ok_idxA hf he ok1.1 ok2 ok3 hv hiv hj hout hu) hdst hdn hp
      · cases ok1
    · cases ok
  | idxS x i =>
    simp only [okOp, hop] at ok
    simp only [runOp, hop] at hr
    split at ok
    · rename_i t X J ho
      simp only [Bool.and_eq_true] at ok
      obtain ⟨⟨ok1, ok2⟩, ok3⟩ := ok
      obtain ⟨u, hu, rfl, rfl⟩ := pureV_spec hr
      rw [Option.bind_eq_some_iff] at hu
      obtain ⟨v, hv, hu⟩ := hu
      rw [Option.bind_eq_some_iff] at hu
      obtain ⟨iv, hiv, hu⟩ := hu
      cases v <;> simp only [reduceCtorEq] at hu
      rw [Option.bind_eq_some_iff] at hu
      obtain ⟨j, hj, hu⟩ := hu
      rw [Option.bind_eq_some_iff] at hu
      obtain ⟨cb, hcb2, hu⟩ := hu
      injection hu with hu
      subst hu
      split at ok1
      · rename_i hun
        exact wp_value hg (m := Instr.index t (a.eval X) (a.eval J)) (by simp [execOp, ho]) (ok_idxS hf hun ok2 ok3 hv hiv hj hcb2) hdst hdn hp
      · cases ok1
    · cases ok
  | build zero parts =>
    simp only [okOp, hop] at ok
    simp only [runOp, hop] at hr
    split at ok
    · rename_i t ps ho
      rw [Bool.and_eq_true] at ok
      obtain ⟨u, hu, rfl, rfl⟩ := pureV_spec hr
      rw [Option.bind_eq_some_iff] at hu
      obtain ⟨vs, hvs, hu⟩ := hu
      rw [Option.bind_eq_some_iff] at hu
      obtain ⟨out, hout, hu⟩ := hu
      injection hu with hu
      subst hu
      exact wp_value hg (m := Instr.build t (ps.map fun (i, x) => (i, a.eval x))) (by simp [execOp, ho]) (ok_build hf ok.1 ok.2 hvs hout) hdst hdn hp
    · cases ok
  | buildS mu sz len zero parts =>
    simp only [okOp, hop] at ok
    simp only [runOp, hop, Option.bind_eq_some_iff] at hr
    obtain ⟨vs, hvs, out, hout, hr⟩ := hr
    split at ok
    · rename_i t k ps ho
      simp only [Bool.and_eq_true] at ok
      obtain ⟨⟨⟨ok1, ok2⟩, ok3⟩, ok4⟩ := ok
      have := of_decide_eq_true ok1
      subst this
      split at hr
      · rename_i hlen
        split at hr
        · rename_i hmu
          simp only [Option.some.injEq, Prod.mk.injEq] at hr
          obtain ⟨rfl, rfl⟩ := hr
          exact op_buildSM hg pl (by rw [hop]; exact hmu) ho (of_decide_eq_true ok2) ok3 ok4 hvs hout hdst hdn hp
        · simp only [Option.some.injEq, Prod.mk.injEq] at hr
          obtain ⟨rfl, rfl⟩ := hr
          exact op_buildS hg ho (of_decide_eq_true ok2) ok3 ok4 hvs hout hlen hdst hdn hp
      · cases hr
    · cases ok
  | bin op x y =>
    simp only [okOp, hop] at ok
    simp only [runOp, hop] at hr
    split at ok
    · rename_i op' t X Y yt ho
      simp only [Bool.and_eq_true] at ok
      obtain ⟨⟨ok1, ok2⟩, ok3⟩ := ok
      have := of_decide_eq_true ok1
      subst this
      obtain ⟨u, hu, rfl, rfl⟩ := pureV_spec hr
      rw [Option.bind_eq_some_iff] at hu
      obtain ⟨v, hv, hu⟩ := hu
      rw [Option.bind_eq_some_iff] at hu
      obtain ⟨v2, hv2, hu⟩ := hu
      exact wp_value hg (m := do eqGuard op t X Y (a.eval X) (a.eval Y); binOp op t (a.eval X) (a.eval Y)) (by simp only [execOp, ho]; exact run_v _ _) (ok_bin hf (X' := x) (Y' := y) ok2 ok3 hv hv2 hu) hdst hdn hp
    · cases ok
  | eq neg ty x y =>
    simp only [okOp, hop] at ok
    simp only [runOp, hop] at hr
    obtain ⟨u, hu, rfl, rfl⟩ := pureV_spec hr
    rw [Option.bind_eq_some_iff] at hu
    obtain ⟨v, hv, hu⟩ := hu
    rw [Option.bind_eq_some_iff] at hu
    obtain ⟨v2, hv2, hu⟩ := hu
    rw [Option.bind_eq_some_iff] at hu
    obtain ⟨r, hre, hu⟩ := hu
    injection hu with hu
    subst hu
    split at ok
    · rename_i t X Y yt ho
      simp only [Bool.and_eq_true] at ok
      obtain ⟨⟨⟨ok1, ok2⟩, ok3⟩, ok4⟩ := ok
      have hneg : neg = false := by simpa using ok1
      subst hneg
      exact wp_value hg (m := do eqGuard .eql t X Y (a.eval X) (a.eval Y); binOp .eql t (a.eval X) (a.eval Y)) (by simp only [execOp, ho]; exact run_v _ _) (ok_eq (neg := false) hf ok2 ok3 ok4 hv hv2 hre) hdst hdn hp
    · rename_i t X Y yt ho
      simp only [Bool.and_eq_true] at ok
      obtain ⟨⟨⟨ok1, ok2⟩, ok3⟩, ok4⟩ := ok
      subst ok1
      exact wp_value hg (m := do eqGuard .neq t X Y (a.eval X) (a.eval Y); binOp .neq t (a.eval X) (a.eval Y)) (by simp only [execOp, ho]; exact run_v _ _) (ok_eq (neg := true) hf ok2 ok3 ok4 hv hv2 hre) hdst hdn hp
    · cases ok
  | un op x =>
    simp only [okOp, hop] at ok
    simp only [runOp, hop] at hr
    split at ok
    · rename_i op' t X ho
      rw [Bool.and_eq_true] at ok
      have := of_decide_eq_true ok.1
      subst this
      obtain ⟨u, hu, rfl, rfl⟩ := pureV_spec hr
      rw [Option.bind_eq_some_iff] at hu
      obtain ⟨v, hv, hu⟩ := hu
      exact wp_value hg (m := Op.unary op (a.eval X)) (by simp [execOp, ho]) (ok_un hf ok.2 hv hu) hdst hdn hp
    · cases ok
  | conv k x =>
    simp only [okOp, hop] at ok
    simp only [runOp, hop] at hr
    split at ok
    · rename_i src dst X ho
      rw [Bool.and_eq_true] at ok
      obtain ⟨u, hu, rfl, rfl⟩ := pureV_spec hr
      rw [Option.bind_eq_some_iff] at hu
      obtain ⟨v, hv, hu⟩ := hu
      cases v <;> simp only [reduceCtorEq, Option.some.injEq] at hu
      subst hu
      obtain ⟨ok1, ok2⟩ := ok
      split at ok1
      · rename_i d k' h1 h2
        have := of_decide_eq_true ok1
        subst this
        exact wp_value hg (m := convert src dst (a.eval X)) (by simp [execOp, ho]) (ok_conv hf h1 h2 ok2 hv) hdst hdn hp
      · cases ok1
    · cases ok
  | nilchk x =>
    simp only [okOp, hop] at ok
    simp only [runOp, hop] at hr
    split at ok
    · rename_i X ho; exact op_nilchk hg ok ho hdst hdn hr hp
    · cases ok
  | strOf x =>
    simp only [okOp, hop] at ok
    simp only [runOp, hop] at hr
    split at ok
    · rename_i src dst X ho
      rw [Bool.and_eq_true] at ok
      obtain ⟨ok1, ok2⟩ := ok
      split at ok1
      · rename_i e h1 h2
        split at ok1
        · rename_i k h3
          have := of_decide_eq_true ok1
          subst this
          obtain ⟨u, hu, rfl, rfl⟩ := pureV_spec hr
          rw [Option.bind_eq_some_iff] at hu
          obtain ⟨v, hv, hu⟩ := hu
          exact wp_value hg (m := convert src dst (a.eval X)) (by simp [execOp, ho]) (ok_strOf hf h1 h2 h3 ok2 hv hu) hdst hdn hp
        · cases ok1
      · cases ok1
    · cases ok
  | extract i x =>
    simp only [okOp, hop] at ok
    simp only [runOp, hop] at hr
    split at ok
    · rename_i X j ho
      rw [Bool.and_eq_true] at ok
      have := of_decide_eq_true ok.1
      subst this
      obtain ⟨u, hu, rfl, rfl⟩ := pureV_spec hr
      rw [Option.bind_eq_some_iff] at hu
      obtain ⟨v, hv, hu⟩ := hu
      cases v <;> simp only [reduceCtorEq] at hu
      exact wp_value hg (m := Instr.extract (a.eval X) i) (by simp [execOp, ho]) (ok_extract hf ok.2 hv hu) hdst hdn hp
    · cases ok
  | len k x =>
    simp only [okOp, hop] at ok
    simp only [runOp, hop] at hr
    split at ok
    · rename_i X t ho
      have ho := opCall_spec ho
      rw [Bool.and_eq_true] at ok
      obtain ⟨u, hu, rfl, rfl⟩ := pureV_spec hr
      rw [Option.bind_eq_some_iff] at hu
      obtain ⟨v, hv, hu⟩ := hu
      exact wp_value hg (m := Builtin.len_ #[t] o.type #[a.eval X]) (by simp [execOp, ho, resolve, invoke, builtin]) (ok_len hf ok.1 ok.2 hv hu) hdst hdn hp
    · cases ok
  | append md sz x y =>
    simp only [okOp, hop] at ok
    simp only [runOp, hop, Option.bind_eq_some_iff] at hr
    obtain ⟨xv, hxv, yv, hyv, new, hnew, hr⟩ := hr
    split at ok
    · rename_i X Y t u ho
      have ho : o.op = .call { callee := .builtin .append, args := #[X, Y], argTypes := #[t, u] } := opCall_spec ho
      simp only [Bool.and_eq_true] at ok
      obtain ⟨⟨⟨⟨ok1, ok2⟩, ok3⟩, ok4⟩, ok5⟩ := ok
      have hk := okAppend_spec (of_decide_eq_true ok3) ok4 ok5
      cases xv <;> simp only [reduceCtorEq] at hr
      · rename_i p es
        split at hr
        · rename_i hemp
          have : new = [] := by simpa using hemp
          subst this
          simp only [Option.some.injEq, Prod.mk.injEq] at hr
          obtain ⟨rfl, rfl⟩ := hr
          exact op_append_none hg hk ok1 ok2 ho hxv hyv hnew (eval_slice hf ok1 hxv (.inl ⟨_, _, rfl⟩)) hdst hdn hp
        · rename_i hemp
          have hne : new ≠ [] := by simpa using hemp
          split at hr
          · rename_i hc
            obtain ⟨c1, c2, c3⟩ := hc
            cases p <;> simp only [reduceCtorEq] at hr
            · split at hr
              · cases hr
              rename_i hmd
              split at hr
              · simp only [Option.some.injEq, Prod.mk.injEq] at hr
                obtain ⟨rfl, rfl⟩ := hr
                exact op_append_fullM hg pl (by rw [hop]; simp [IOp.usesAid, hmd]) hk ok1 ok2 ho hxv hyv hnew hne c2 c3 c1 hdst hdn hp
              · simp only [Option.some.injEq, Prod.mk.injEq] at hr
                obtain ⟨rfl, rfl⟩ := hr
                exact op_append_full hg pl (by rw [hop]; simp [IOp.usesAid, hmd]) hk ok1 ok2 ho hxv hyv hnew hne c2 c3 c1 hdst hdn hp
            · rename_i b
              split at hr
              · rename_i sz' k hb
                split at hr
                · rename_i hcond
                  obtain ⟨d1, d2, d3, d4⟩ := hcond
                  subst d1
                  simp only [Option.some.injEq, Prod.mk.injEq] at hr
                  obtain ⟨rfl, rfl⟩ := hr
                  exact op_append_own hg hcb hbn hk ok1 ok2 ho hxv hyv hnew hne c2 c3 c1 hb d2 d3 d4 hdst hdn hp
                · cases hr
              · cases hr
          · cases hr
      · rename_i b off sz' k
        split at hr
        · rename_i hemp
          have : new = [] := by simpa using hemp
          subst this
          simp only [Option.some.injEq, Prod.mk.injEq] at hr
          obtain ⟨rfl, rfl⟩ := hr
          exact op_append_none hg hk ok1 ok2 ho hxv hyv hnew (eval_slice hf ok1 hxv (.inr ⟨_, _, _, _, rfl⟩)) hdst hdn hp
        · cases hr
    · cases ok
  | mkfn f caps =>
    simp only [okOp, hop] at ok
    simp only [runOp, hop] at hr
    split at ok
    · rename_i g first cs ho
      simp only [Bool.and_eq_true] at ok
      obtain ⟨⟨ok1, ok2⟩, ok3⟩ := ok
      have := of_decide_eq_true ok1
      subst this
      have hfirst : first = #[] := by simpa using ok2
      subst hfirst
      obtain ⟨u, hu, rfl, rfl⟩ := pureV_spec hr
      rw [Option.bind_eq_some_iff] at hu
      obtain ⟨vs, hvs, hu⟩ := hu
      injection hu with hu
      subst hu
      exact wp_value hg (m := Instr.makeFunc (.func f) #[] (cs.map a.eval)) (by simp [execOp, ho]) (ok_mkfn hf ok3 hvs) hdst hdn hp
    · cases ok
  | call f args =>
    simp only [okOp, hop] at ok
    simp only [runOp, hop, Option.bind_eq_some_iff, Option.some.injEq, Prod.mk.injEq] at hr
    obtain ⟨vs, hvs, r, hrr, rfl, rfl⟩ := hr
    split at ok
    · rename_i g as ts ho
      have ho := opCall_spec ho
      rw [Bool.and_eq_true] at ok
      have := of_decide_eq_true ok.1
      subst this
      exact op_call htbl hg hcb hfb hbn ho (by simpa using ok.2) hvs hrr hdst hdn hp
    · cases ok
  | callv x args =>
    simp only [okOp, hop] at ok
    simp only [runOp, hop, Option.bind_eq_some_iff] at hr
    obtain ⟨v, hv, vs, hvs, hr⟩ := hr
    split at ok
    · rename_i X as ts ho
      have ho := opCall_spec ho
      rw [Bool.and_eq_true] at ok
      cases v <;> simp only [reduceCtorEq, Option.bind_eq_some_iff, Option.some.injEq, Prod.mk.injEq] at hr
      obtain ⟨r, hrr, rfl, rfl⟩ := hr
      exact op_callv htbl hg hcb hfb hbn ho ok.1 hv (by simpa using ok.2) hvs hrr hdst hdn hp
    · cases ok
  | sliceStr x lo hi =>
    simp only [okOp, hop] at ok
    simp only [runOp, hop] at hr
    split at ok
    · rename_i t X l h m ho
      simp only [Bool.and_eq_true] at ok
      obtain ⟨⟨⟨⟨ok1, ok2⟩, ok3⟩, ok4⟩, ok5⟩ := ok
      have hm : m = none := by simpa using ok5
      subst hm
      obtain ⟨u, hu, rfl, rfl⟩ := pureV_spec hr
      rw [Option.bind_eq_some_iff] at hu
      obtain ⟨v, hv, hu⟩ := hu
      cases v <;> simp only [reduceCtorEq] at hu
      rw [Option.bind_eq_some_iff] at hu
      obtain ⟨hh, hhh, hu⟩ := hu
      rw [Option.bind_eq_some_iff] at hu
      obtain ⟨ll, hll, hu⟩ := hu
      injection hu with hu
      subst hu
      split at ok1
      · rename_i hun
        exact wp_value hg (m := Instr.sliceAt t (a.eval X) (l.map a.eval) (h.map a.eval) none) (by simp [execOp, ho]) (ok_sliceStr hf hun ok2 ok3 ok4 hv hhh hll) hdst hdn hp
      · cases ok1
    · cases ok
  | sliceL sz x lo hi mx =>
    simp only [okOp, hop] at ok
    simp only [runOp, hop] at hr
    split at ok
    · rename_i t X l h m ho
      simp only [Bool.and_eq_true] at ok
      obtain ⟨⟨⟨⟨ok1, ok2⟩, ok3⟩, ok4⟩, ok5⟩ := ok
      obtain ⟨e, he⟩ := Option.isSome_iff_exists.1 ok1
      obtain ⟨u, hu, rfl, rfl⟩ := pureV_spec hr
      rw [Option.bind_eq_some_iff] at hu
      obtain ⟨v, hv, hu⟩ := hu
      cases v <;> simp only [reduceCtorEq] at hu
      · rename_i p es
        cases mx with
        | none =>
          have hm : m = none := by cases m <;> simp_all [okOpt]
          subst hm
          simp only [Option.bind_eq_some_iff] at hu
          obtain ⟨hh, hhh, ll, hll, hu⟩ := hu
          split at hu
          · rename_i hd
            injection hu with hu
            subst hu
            exact wp_value hg (m := Instr.sliceAt t (a.eval X) (l.map a.eval) (h.map a.eval) none) (by simp [execOp, ho]) (ok_sliceL hf he ok2 ok3 ok4 hv hhh hll hd) hdst hdn hp
          · cases hu
        | some mo =>
          cases m with
          | none => simp [okOpt] at ok5
          | some Mo =>
            have hhi : hi.isSome = true := by
              cases hi with
              | none => simp at hu
              | some _ => rfl
            have hhn : hi.isNone = false := by cases hi <;> simp_all
            simp only [hhn, Bool.false_eq_true, if_false, Option.bind_eq_some_iff] at hu
            obtain ⟨mm, hmm, hh, hhh, ll, hll, hu⟩ := hu
            split at hu
            · rename_i hd
              injection hu with hu
              subst hu
              exact wp_value hg (m := Instr.sliceAt t (a.eval X) (l.map a.eval) (h.map a.eval) (some (a.eval Mo))) (by simp [execOp, ho]) (ok_sliceL3 hf he ok2 ok3 ok4 (by simpa [okOpt] using ok5) hhi hv hmm hhh hll hd) hdst hdn hp
            · cases hu
      · split at hu
        · rename_i hc
          obtain ⟨rfl, hmx⟩ := hc
          have hm : m = none := by cases mx <;> cases m <;> simp_all [okOpt]
          subst hm
          simp only [Option.bind_eq_some_iff, Option.some.injEq] at hu
          obtain ⟨hh, hhh, ll, hll, rfl⟩ := hu
          exact wp_value hg (m := Instr.sliceAt t (a.eval X) (l.map a.eval) (h.map a.eval) none) (by simp [execOp, ho]) (ok_sliceB hf he ok2 ok3 ok4 hv hhh hll) hdst hdn hp
        · cases hu
    · cases ok
  | sliceA len sz x lo hi =>
    simp only [okOp, hop] at ok
    simp only [runOp, hop, Option.bind_eq_some_iff] at hr
    obtain ⟨av, hav, hh, hhh, ll, hll, hr⟩ := hr
    split at ok
    · rename_i t X l h m ho
      simp only [Bool.and_eq_true] at ok
      obtain ⟨⟨⟨⟨ok1, ok2⟩, ok3⟩, ok4⟩, ok5⟩ := ok
      obtain ⟨e, he⟩ := Option.isSome_iff_exists.1 ok1
      have hm : m = none := by simpa using ok5
      subst hm
      cases av with
      | loc t' o' => simp at hr
      | ref b off =>
        simp only [Option.some.injEq, Prod.mk.injEq] at hr
        obtain ⟨rfl, rfl⟩ := hr
        exact wp_value hg (m := Instr.sliceAt t (a.eval X) (l.map a.eval) (h.map a.eval) none) (by simp [execOp, ho]) (ok_sliceA hf he ok2 ok3 ok4 hav hhh hll rfl) hdst hdn hp
      | imm cs =>
        simp only [Option.bind_eq_some_iff, Option.some.injEq, Prod.mk.injEq] at hr
        obtain ⟨cells, hcells, rfl, rfl⟩ := hr
        exact wp_value hg (m := Instr.sliceAt t (a.eval X) (l.map a.eval) (h.map a.eval) none) (by simp [execOp, ho]) (ok_sliceA hf he ok2 ok3 ok4 hav hhh hll (by simp [hcells])) hdst hdn hp
    · cases ok
  | s2a len sz x =>
    simp only [okOp, hop] at ok
    simp only [runOp, hop] at hr
    split at ok
    · rename_i t X ho
      rw [Bool.and_eq_true] at ok
      obtain ⟨e, he⟩ := Option.isSome_iff_exists.1 ok.1
      obtain ⟨u, hu, rfl, rfl⟩ := pureV_spec hr
      rw [Option.bind_eq_some_iff] at hu
      obtain ⟨v, hv, hu⟩ := hu
      cases v <;> simp only [reduceCtorEq] at hu
      · split at hu
        · rename_i hc
          injection hu with hu
          subst hu
          exact wp_value hg (m := Instr.arrayAt t (a.eval X)) (by simp [execOp, ho]) (ok_s2a_list hf he ok.2 hv hc.1 hc.2.1 hc.2.2) hdst hdn hp
        · cases hu
      · split at hu
        · rename_i hc
          injection hu with hu
          subst hu
          exact wp_value hg (m := Instr.arrayAt t (a.eval X)) (by simp [execOp, ho]) (ok_s2a_buf hf he ok.2 hv hc.2.1 hc.2.2) hdst hdn hp
        · cases hu
    · cases ok
  | mkslice sz zero x =>
    simp only [okOp, hop] at ok
    simp only [runOp, hop, Option.bind_eq_some_iff, Option.some.injEq, Prod.mk.injEq] at hr
    obtain ⟨v, hv, k, hk, rfl, rfl⟩ := hr
    split at ok
    · rename_i t X Y ho
      simp only [Bool.and_eq_true] at ok
      obtain ⟨⟨⟨ok1, ok2⟩, ok3⟩, ok4⟩ := ok
      split at ok4
      · rename_i e he
        simp only [Bool.and_eq_true] at ok4
        exact op_mkslice hg pl (by rw [hop]; rfl) ho ok1 ok2 (of_decide_eq_true ok3) he ok4.1.1 ok4.1.2 (of_decide_eq_true ok4.2) hv hk hdst hdn hp
      · cases ok4
    · cases ok
  | mkmap =>
    simp only [okOp, hop] at ok
    simp only [runOp, hop, Option.some.injEq, Prod.mk.injEq] at hr
    obtain ⟨rfl, rfl⟩ := hr
    split at ok
    · rename_i t ho; exact op_mkmap hg pl (by rw [hop]; rfl) ho hdst hdn hp
    · cases ok
  | lookup ks k zero x i =>
    simp only [okOp, hop] at ok
    simp only [runOp, hop] at hr
    split at ok
    · rename_i t X J k' ho
      simp only [Bool.and_eq_true] at ok
      obtain ⟨⟨⟨ok1, ok2⟩, ok3⟩, ok4⟩ := ok
      have := of_decide_eq_true ok1
      subst this
      obtain ⟨u, hu, rfl, rfl⟩ := pureV_spec hr
      rw [Option.bind_eq_some_iff] at hu
      obtain ⟨v, hv, hu⟩ := hu
      rw [Option.bind_eq_some_iff] at hu
      obtain ⟨kv, hkv, hu⟩ := hu
      split at hu
      · rename_i hko
        rw [Option.bind_eq_some_iff] at hu
        obtain ⟨r, hre, hu⟩ := hu
        injection hu with hu
        subst hu
        split at ok4
        · rename_i e he
          exact wp_value hg (m := Instr.lookup t (a.eval X) (a.eval J) k) (by simp [execOp, ho]) (ok_lookup hf ok2 ok3 he ok4 hv hkv hko hre) hdst hdn hp
        · cases ok4
      · cases hu
    · cases ok
  | mapupd ks x k v =>
    simp only [okOp, hop] at ok
    simp only [runOp, hop, Option.bind_eq_some_iff] at hr
    obtain ⟨m, hm, kv, hkv, u, hu, hr⟩ := hr
    split at ok
    · rename_i t X K Y ho
      simp only [Bool.and_eq_true] at ok
      obtain ⟨⟨⟨ok1, ok2⟩, ok3⟩, ok4⟩ := ok
      obtain ⟨e, he⟩ := Option.isSome_iff_exists.1 ok4
      cases m <;> simp only [reduceCtorEq] at hr
      split at hr
      · rename_i es hb
        split at hr
        · rename_i hc
          rw [Option.bind_eq_some_iff] at hr
          obtain ⟨es', hes, hr⟩ := hr
          simp only [Option.some.injEq, Prod.mk.injEq] at hr
          obtain ⟨rfl, rfl⟩ := hr
          exact op_mapupd hg hcb hbn ho ok1 ok2 ok3 he hm hkv hu hb hc.1 hc.2 hes hdst hdn hp
        · cases hr
      · cases hr
    · cases ok
  | mapdel ks x k =>
    simp only [okOp, hop] at ok
    simp only [runOp, hop, Option.bind_eq_some_iff] at hr
    obtain ⟨m, hm, kv, hkv, hr⟩ := hr
    split at ok
    · rename_i X K t ts ho
      have ho := opCall_spec ho
      simp only [Bool.and_eq_true] at ok
      obtain ⟨⟨ok1, ok2⟩, ok3⟩ := ok
      obtain ⟨e, he⟩ := Option.isSome_iff_exists.1 ok3
      cases m <;> simp only [reduceCtorEq] at hr
      split at hr
      · rename_i es hb
        split at hr
        · rename_i hc
          rw [Option.bind_eq_some_iff] at hr
          obtain ⟨es', hes, hr⟩ := hr
          simp only [Option.some.injEq, Prod.mk.injEq] at hr
          obtain ⟨rfl, rfl⟩ := hr
          exact op_mapdel hg hcb hbn (ts := (t :: ts).toArray) ho (by simp) ok1 ok2 he hm hkv hb hc.1 hc.2 hes hdst hdn hp
        · cases hr
      · cases hr
    · cases ok
  | maxmin mx xs =>
    simp only [okOp, hop] at ok
    simp only [runOp, hop] at hr
    obtain ⟨u, hu, rfl, rfl⟩ := pureV_spec hr
    rw [Option.bind_eq_some_iff] at hu
    obtain ⟨vs, hvs, hu⟩ := hu
    cases vs with
    | nil => cases hu
    | cons v vs =>
      have hi : ∃ k m, v = .int k m := by
        cases v <;> first | exact ⟨_, _, rfl⟩ | cases hu
      obtain ⟨k, m, rfl⟩ := hi
      have hi : ∃ k' m', V.int k m = .int k' m' := ⟨_, _, rfl⟩
      simp only [] at hu
      split at ok
      · rename_i ys ts ho
        have ho := opCall_spec ho
        rw [Bool.and_eq_true] at ok
        obtain ⟨rfl, ok⟩ := ok
        exact wp_value hg (m := Builtin.max_ ts.toArray o.type (ys.toArray.map a.eval)) (by simp [execOp, ho, resolve, invoke, builtin]) (by simpa using ok_maxmin (ts := ts.toArray) (rt := o.type) (Xs := ys.toArray) (mx := true) hf (by simpa using ok) hvs hu hi) hdst hdn hp
      · rename_i ys ts ho
        have ho := opCall_spec ho
        rw [Bool.and_eq_true] at ok
        obtain ⟨hmx, ok⟩ := ok
        have hmx : mx = false := by simpa using hmx
        subst hmx
        exact wp_value hg (m := Builtin.min_ ts.toArray o.type (ys.toArray.map a.eval)) (by simp [execOp, ho, resolve, invoke, builtin]) (by simpa using ok_maxmin (ts := ts.toArray) (rt := o.type) (Xs := ys.toArray) (mx := false) hf (by simpa using ok) hvs hu hi) hdst hdn hp
      · cases ok

end
end Go.Abs
