/-
  FRAMES: what the slots of a frame stand for; operands, constants, addresses; the operations that only compute.
-/
import Derived.Test.YtagmcgbbgjkdbaaAbs2
set_option linter.all false
namespace Go.Abs
open Go

theorem bytesEq_spec {s : List UInt8} {b : ByteArray} (h : bytesEq s b = true) : b.data.toList = s := of_decide_eq_true h

mutual
theorem okConst_rep {Γ : Imm} {L : Locs} : ∀ (v : V) (x : Value), okConst v x = true → Rep Γ L v x
  | .int k n, x, h => by
    cases x <;> simp only [okConst, Bool.false_eq_true] at h
    rw [Bool.and_eq_true] at h
    have a := of_decide_eq_true h.1
    have b := of_decide_eq_true h.2
    subst a; subst b; exact .int _ _
  | .bool b, x, h => by
    cases x <;> simp only [okConst, Bool.false_eq_true] at h
    have a := of_decide_eq_true h
    subst a; exact .bool _
  | .str s, x, h => by
    cases x <;> simp only [okConst, Bool.false_eq_true] at h
    exact .str _ _ (bytesEq_spec h)
  | .nilp, x, h => by
    cases x with
    | pointer a => cases a with
      | none => exact .nilp
      | some a => simp [okConst] at h
    | _ => simp [okConst] at h
  | .ref _ _, x, h => by simp [okConst] at h
  | .pim _, x, h => by simp [okConst] at h
  | .list p es, x, h => by
    cases p with
    | full => cases es with
      | nil => cases x with
        | slice a n c => cases a with
          | none =>
            cases n with
            | zero => cases c with
              | zero => exact .list .full [] none 0 0 [] (fun _ _ => Go.undef) (by simp) (by simp) (by simp) (by simp) (by simp) (by simp) (by simp)
              | succ c => simp [okConst] at h
            | succ n => simp [okConst] at h
          | some a => simp [okConst] at h
        | _ => simp [okConst] at h
      | cons e es => simp [okConst] at h
    | no => simp [okConst] at h
    | own b => simp [okConst] at h
  | .buf _ _ _ _, x, h => by simp [okConst] at h
  | .mapr _, x, h => by simp [okConst] at h
  | .nilm, x, h => by
    cases x with
    | map a => cases a with
      | none => exact .nilm
      | some a => simp [okConst] at h
    | _ => simp [okConst] at h
  | .fn _ _, x, h => by simp [okConst] at h
  | .nilf, x, h => by
    cases x <;> first | exact .nilf | simp [okConst] at h
  | .agg cs, x, h => by
    cases x <;> simp only [okConst, Bool.false_eq_true] at h
    exact Rep.agg' (okConsts_reps cs _ h)
  | .tup _, x, h => by simp [okConst] at h
  | .undef, x, h => by simp [okConst] at h
theorem okConsts_reps {Γ : Imm} {L : Locs} : ∀ (cs : List V) (xs : List Value), okConsts cs xs = true → Reps Γ L cs xs
  | [], [], _ => .nil
  | [], _ :: _, h => by simp [okConsts] at h
  | _ :: _, [], h => by simp [okConsts] at h
  | c :: cs, x :: xs, h => by
    simp only [okConsts, Bool.and_eq_true] at h
    exact .cons (okConst_rep c x h.1) (okConsts_reps cs xs h.2)
end

abbrev ptr (r o : Nat) : Value := .pointer (some ⟨r, o, none⟩)

structure FInv (B n : Nat) (Γ : Imm) (L : Locs) (s : St) (tmps : Array Value) (w : World) : Prop where
  size : n ≤ tmps.size
  heap : HInv Γ L s.H s.next w
  val : ∀ t v, s.E t = .val v → ∃ x, tmps[t]? = some x ∧ Rep Γ L v x
  var : ∀ t cs, s.E t = .var cs → ∃ r arr el, tmps[t]? = some (ptr r 0) ∧ B ≤ r ∧ w.heap[r]? = some (.cells arr el (0, 0)) ∧ Γ r = none ∧ Reps Γ L cs arr.toList ∧ ∀ b, real L s.H b ≠ some r
  varInj : ∀ t t' cs cs' r, s.E t = .var cs → s.E t' = .var cs' → tmps[t]? = some (ptr r 0) → tmps[t']? = some (ptr r 0) → t = t'
  lref : ∀ t t' o, s.E t = .lref t' o → ∃ cs r, s.E t' = .var cs ∧ tmps[t']? = some (ptr r 0) ∧ tmps[t]? = some (ptr r o)

section
variable {B n : Nat} {Γ : Imm} {L : Locs} {s : St} {a : Act} {w : World}

theorem eval_tmp {t : Nat} {x : Value} (h : a.tmps[t]? = some x) : a.eval (.tmp t) = x := by
  simp [Act.eval, Array.getD_eq_getD_getElem?, h]

theorem opd_rep (hf : FInv B n Γ L s a.tmps w) {x : Opd} {X : Operand} {v : V} (ok : okOpd x X = true) (h : x.eval s.E = some v) : Rep Γ L v (a.eval X) := by
  cases x with
  | t i =>
    cases X <;> simp only [okOpd, Bool.false_eq_true] at ok
    have := of_decide_eq_true ok
    subst this
    cases he : s.E i <;> simp only [Opd.eval, he, reduceCtorEq] at h
    injection h with h
    subst h
    obtain ⟨x, hx, hr⟩ := hf.val _ _ he
    rw [eval_tmp hx]; exact hr
  | k c =>
    simp only [Opd.eval] at h
    injection h with h
    subst h
    cases X with
    | const x =>
      show Rep Γ L c x
      exact okConst_rep _ _ (by simpa only [okOpd] using ok)
    | func g =>
      cases c <;> simp only [okOpd, Bool.false_eq_true] at ok
      rename_i f cap
      rw [Bool.and_eq_true] at ok
      have e := of_decide_eq_true ok.1
      subst e
      have : cap = [] := by simpa using ok.2
      subst this
      exact Rep.fn' .nil
    | tmp t => simp [okOpd] at ok
    | global g => simp [okOpd] at ok

theorem opds_reps (hf : FInv B n Γ L s a.tmps w) : ∀ {xs : List Opd} {Xs : List Operand} {vs : List V}, okOpds xs Xs = true → Opd.evals s.E xs = some vs → Reps Γ L vs (Xs.map a.eval)
  | [], [], vs, _, h => by simp only [Opd.evals] at h; injection h with h; subst h; exact .nil
  | [], _ :: _, _, ok, _ => by simp [okOpds] at ok
  | _ :: _, [], _, ok, _ => by simp [okOpds] at ok
  | x :: xs, X :: Xs, vs, ok, h => by
    simp only [okOpds, Bool.and_eq_true] at ok
    simp only [Opd.evals, Option.bind_eq_some_iff] at h
    obtain ⟨v, hv, vs', hvs, h⟩ := h
    injection h with h
    subst h
    exact .cons (opd_rep hf ok.1 hv) (opds_reps hf ok.2 hvs)

/-- What an address stands for. -/
def AOK (Γ : Imm) (L : Locs) (s : St) (tmps : Array Value) (w : World) : AV → Value → Prop
  | .loc t o, x => ∃ cs r, s.E t = .var cs ∧ tmps[t]? = some (ptr r 0) ∧ x = ptr r o
  | .ref b o, x => ∃ r, L.blk b = some r ∧ x = ptr r o
  | .imm cs, x => Rep Γ L (.pim cs) x

theorem addr_ok (hf : FInv B n Γ L s a.tmps w) {x : Opd} {X : Operand} {v : AV} (ok : okOpd x X = true) (h : addrOf s.E x = some v) : AOK Γ L s a.tmps w v (a.eval X) := by
  cases x with
  | k c => simp [addrOf] at h
  | t i =>
    cases X <;> simp only [okOpd, Bool.false_eq_true] at ok
    have := of_decide_eq_true ok
    subst this
    cases he : s.E i with
    | undef => simp [addrOf, he] at h
    | val u =>
      obtain ⟨x, hx, hr⟩ := hf.val _ _ he
      cases u <;> simp only [addrOf, he, reduceCtorEq, Option.some.injEq] at h
      · subst h
        rw [eval_tmp hx]
        cases hr with | ref b off r h => exact ⟨r, h, rfl⟩
      · subst h
        rw [eval_tmp hx]
        exact hr
    | var cs =>
      simp only [addrOf, he, Option.some.injEq] at h
      subst h
      obtain ⟨r, arr, el, hx, _⟩ := hf.var _ _ he
      exact ⟨cs, r, he, hx, eval_tmp hx⟩
    | lref t' o =>
      simp only [addrOf, he, Option.some.injEq] at h
      subst h
      obtain ⟨cs, r, h1, h2, h3⟩ := hf.lref _ _ _ he
      exact ⟨cs, r, h1, h2, eval_tmp h3⟩

theorem pim_drop {cs : List V} {r o : Nat} (h : Rep Γ L (.pim cs) (ptr r o)) (k : Nat) : Rep Γ L (.pim (cs.drop k)) (ptr r (o + k)) := by
  cases h with
  | pim _ _ _ gs vals hg hv hr =>
    refine .pim _ r (o + k) gs (fun j => vals (k + j)) hg (fun j c hj => ?_) (fun j c hj => ?_)
    · rw [List.getElem?_drop] at hj; rw [Nat.add_assoc]; exact hv _ c hj
    · rw [List.getElem?_drop] at hj; exact hr _ c hj

theorem aok_ptr {v : AV} {x : Value} {tmps : Array Value} (h : AOK Γ L s tmps w v x) : ∃ r o, x = ptr r o := by
  cases v with
  | loc t o => obtain ⟨cs, r, _, _, e⟩ := h; exact ⟨r, o, e⟩
  | ref b o => obtain ⟨r, _, e⟩ := h; exact ⟨r, o, e⟩
  | imm cs => cases h with | pim _ r off _ _ _ _ _ => exact ⟨r, off, rfl⟩

theorem aok_add {v : AV} {r o : Nat} {tmps : Array Value} (h : AOK Γ L s tmps w v (ptr r o)) (k : Nat) : AOK Γ L s tmps w (v.add k) (ptr r (o + k)) := by
  cases v with
  | loc t o' =>
    obtain ⟨cs, r', h1, h2, h3⟩ := h
    injection h3 with h3; injection h3 with h3; injection h3 with h3 h4
    subst h3; subst h4
    exact ⟨cs, r, h1, h2, rfl⟩
  | ref b o' =>
    obtain ⟨r', h1, h3⟩ := h
    injection h3 with h3; injection h3 with h3; injection h3 with h3 h4
    subst h3; subst h4
    exact ⟨r, h1, rfl⟩
  | imm cs => exact pim_drop h k

theorem getCells_spec {cs : List V} {o k : Nat} {out : List V} (h : getCells cs o k = some out) : o + k ≤ cs.length ∧ out = (cs.drop o).take k := by
  unfold getCells at h
  split at h
  · rename_i hle; injection h with h; exact ⟨hle, h.symm⟩
  · cases h

theorem getCells_length {cs : List V} {o k : Nat} {out : List V} (h : getCells cs o k = some out) : out.length = k := by
  obtain ⟨h1, rfl⟩ := getCells_spec h
  simp; omega

theorem getCells_get {cs : List V} {o k : Nat} {out : List V} (h : getCells cs o k = some out) {j : Nat} (hj : j < k) : out[j]? = cs[o + j]? := by
  obtain ⟨h1, rfl⟩ := getCells_spec h
  rw [List.getElem?_take, if_pos hj, List.getElem?_drop]

theorem cell_at {w : World} {r : Nat} {arr : Array Value} {el : TypeId} {fz : Nat × Nat} (h : w.heap[r]? = some (.cells arr el fz)) (o : Nat) : w.cell? ⟨r, o, none⟩ = arr[o]? := by
  simp [World.cell?, h]

/-- What is read at an address: cells of the world that stand for it. -/
theorem av_get (hf : FInv B n Γ L s a.tmps w) {v : AV} {r o k : Nat} {out : List V} (h : AOK Γ L s a.tmps w v (ptr r o)) (hg : v.get s.E s.H k = some out) :
    ∃ xs, xs.length = k ∧ Reps Γ L out xs ∧ ∀ j x, xs[j]? = some x → w.cell? ⟨r, o + j, none⟩ = some x := by
  have key : ∀ (cs : List V) (arr : Array Value) (el : TypeId) (fz : Nat × Nat) (xs : List Value) (t : List Value), w.heap[r]? = some (.cells arr el fz) → arr.toList = xs ++ t → Reps Γ L cs xs → getCells cs o k = some out →
      ∃ xs, xs.length = k ∧ Reps Γ L out xs ∧ ∀ j x, xs[j]? = some x → w.cell? ⟨r, o + j, none⟩ = some x := by
    intro cs arr el fz xs t hw ht hr hg
    obtain ⟨h1, rfl⟩ := getCells_spec hg
    refine ⟨(xs.drop o).take k, by have := hr.1; simp; omega, (hr.drop o).take k, fun j x hx => ?_⟩
    rw [List.getElem?_take] at hx
    split at hx
    · rw [List.getElem?_drop] at hx
      rw [cell_at hw, ← Array.getElem?_toList, ht]
      exact get_append hx
    · cases hx
  cases v with
  | loc t o' =>
    obtain ⟨cs, r', h1, h2, h3⟩ := h
    injection h3 with h3; injection h3 with h3; injection h3 with h3 h4
    subst h3; subst h4
    simp only [AV.get, h1] at hg
    obtain ⟨r', arr, el, hx, _, hw, _, hr, _⟩ := hf.var _ _ h1
    rw [h2] at hx
    injection hx with hx; injection hx with hx; injection hx with hx; injection hx with hx
    subst hx
    exact key cs arr el (0, 0) arr.toList [] hw (by simp) hr hg
  | ref b o' =>
    obtain ⟨r', h1, h3⟩ := h
    injection h3 with h3; injection h3 with h3; injection h3 with h3 h4
    subst h3; subst h4
    simp only [AV.get] at hg
    split at hg
    · rename_i cs hb
      obtain ⟨r', arr, el, t, hx, hw, _, ht, hr⟩ := hf.heap.cells _ _ hb
      rw [h1] at hx
      injection hx with hx
      subst hx
      exact key cs arr el (0, 0) _ t hw ht hr hg
    · cases hg
  | imm cs =>
    simp only [AV.get] at hg
    cases h with
    | pim _ _ _ gs vals hg' hv hr =>
      obtain ⟨h1, rfl⟩ := getCells_spec hg
      obtain ⟨arr, el, fz, hw, t, ht⟩ := hf.heap.imm _ _ hg'
      refine ⟨(List.range k).map vals, by simp, ⟨by simp; omega, fun j c x hc hx => ?_⟩, fun j x hx => ?_⟩
      · rw [List.drop_zero, List.getElem?_take] at hc
        split at hc
        · rename_i hj
          rw [List.getElem?_map, List.getElem?_range hj] at hx
          injection hx with hx
          subst hx
          exact hr j c hc
        · cases hc
      · have hj : j < k := by have := (List.getElem?_eq_some_iff.1 hx).1; simpa using this
        rw [List.getElem?_map, List.getElem?_range hj] at hx
        injection hx with hx
        subst hx
        rw [cell_at hw, ← Array.getElem?_toList, ht]
        obtain ⟨c, hc⟩ : ∃ c, cs[j]? = some c := ⟨cs[j]'(by omega), List.getElem?_eq_getElem _⟩
        exact get_append (hv j c hc)

end
end Go.Abs
