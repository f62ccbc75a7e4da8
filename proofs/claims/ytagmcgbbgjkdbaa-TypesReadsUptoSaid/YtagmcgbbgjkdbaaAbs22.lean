/-
  WHAT AN OPERATION READS AND WRITES: all operations.
-/
import Derived.Test.YtagmcgbbgjkdbaaAbs21
set_option linter.all false
namespace Go.Abs
open Go

section
variable {ρ : Nat → Option Nat} {base : Nat} {md : Nat → Nat} {call : CallF} {o : IOper} {s s1 s2 s1' s2' : St} {E1 E2 : Nat → Slot} {x : Slot}

theorem run_foot (hc : CallFoot md call) (hfe : fenced o = true) (hm : ∀ t ∈ o.maskT, refId (s1.E t) = ρ t) (ha : Agree ρ base (foot md o) s1 s2) (h : runOp call base o s1 = some (x, s1')) :
    Keeps ρ base md call o s1 s2 x s1' := by
  have hs : ∀ i ∈ o.op.slots, s1.E i = s2.E i := fun i hi => ha.E i (by simp [foot, hi])
  have hmT : ∀ i ∈ o.maskT, s1.E i = s2.E i := fun i hi => ha.E i (by simp [foot, hi])
  have hrv : ∀ i ∈ o.op.rv o.maskT o.maskA, s1.E i = s2.E i := fun i hi => ha.E i (by simp [foot, hi])
  have ev : ∀ y : Opd, (∀ i ∈ y.slots, i ∈ o.op.slots) → y.eval s1.E = y.eval s2.E := fun y hy => eval_cg fun i hi => hs i (hy i hi)
  have ad : ∀ y : Opd, (∀ i ∈ y.slots, i ∈ o.op.slots) → addrOf s1.E y = addrOf s2.E y := fun y hy => addrOf_cg fun i hi => hs i (hy i hi)
  have bd : ∀ (y : Option Opd) (d n : Nat), (∀ i ∈ optSlots y, i ∈ o.op.slots) → bnd? s1.E y d n = bnd? s2.E y d n := fun y d n hy => bnd_cg fun i hi => hs i (hy i hi)
  have hall : (o.op.rb md o.maskT o.maskA o.aid = .but [] []) → s1.H = s2.H := fun hb => by
    funext b
    refine ha.H b ?_
    simp [foot, hb, BS.has, Named]
  cases hop : o.op with
  | mov y =>
    refine still_foot (by simp [hop, IOp.wv]) (by simp [hop, IOp.wb]) (by simp [hop, IOp.wn]) ?_
    simp only [runOp, hop] at h ⊢
    cases y with
    | k v =>
      simp only [movR, Option.some.injEq, Prod.mk.injEq] at h ⊢
      exact ⟨h.2.symm, h.1, trivial⟩
    | t i =>
      have e : s1.E i = s2.E i := hs i (by simp [hop, IOp.slots, Opd.slots])
      simp only [movR, ← e] at h ⊢
      cases he : s1.E i <;> simp only [he, Option.some.injEq, Prod.mk.injEq, reduceCtorEq] at h ⊢ <;> exact ⟨h.2.symm, h.1, trivial⟩
  | pick c a b =>
    refine still_foot (by simp [hop, IOp.wv]) (by simp [hop, IOp.wb]) (by simp [hop, IOp.wn]) ?_
    simp only [runOp, hop] at h ⊢
    exact pure_case h (by rw [ev c (by simp_all [IOp.slots]), ev a (by simp_all [IOp.slots]), ev b (by simp_all [IOp.slots])])
  | allocV z =>
    refine still_foot (by simp [hop, IOp.wv]) (by simp [hop, IOp.wb]) (by simp [hop, IOp.wn]) ?_
    simp only [runOp, hop, Option.some.injEq, Prod.mk.injEq] at h ⊢
    exact ⟨h.2.symm, h.1, trivial⟩
  | boxV y =>
    refine still_foot (by simp [hop, IOp.wv]) (by simp [hop, IOp.wb]) (by simp [hop, IOp.wn]) ?_
    simp only [runOp, hop] at h ⊢
    exact slot_case h (ev y (by simp_all [IOp.slots]))
  | allocH z =>
    refine make_foot (blk := .cells z) (by simp [hop, IOp.wv]) (by simp [hop, IOp.wb]) (by simp [hop, IOp.wn]) ?_
    simp only [runOp, hop, Option.some.injEq, Prod.mk.injEq] at h ⊢
    exact ⟨h.2.symm, h.1, trivial⟩
  | boxH y =>
    simp only [runOp, hop, Option.bind_eq_some_iff, Option.some.injEq, Prod.mk.injEq] at h
    obtain ⟨v, hv, h1, h2⟩ := h
    refine make_foot (blk := .cells v.cells) (by simp [hop, IOp.wv]) (by simp [hop, IOp.wb]) (by simp [hop, IOp.wn]) ⟨h2.symm, ?_⟩
    rw [ev y (by simp_all [IOp.slots])] at hv
    simp only [runOp, hop, hv, Option.bind_some, h1]
  | newPerm sz =>
    refine make_foot (blk := .perm sz 0) (by simp [hop, IOp.wv]) (by simp [hop, IOp.wb]) (by simp [hop, IOp.wn]) ?_
    simp only [runOp, hop, Option.some.injEq, Prod.mk.injEq] at h ⊢
    exact ⟨h.2.symm, h.1, trivial⟩
  | load agg n y =>
    refine still_foot (by simp [hop, IOp.wv]) (by simp [hop, IOp.wb]) (by simp [hop, IOp.wn]) ?_
    have hfe' : (o.maskT.isEmpty && o.maskA.isEmpty) = false := by simp only [fenced, hop, Bool.not_eq_true'] at hfe; exact hfe
    have e1 : addrF s1.E o.maskT o.maskA y = addrF s2.E o.maskT o.maskA y := addrF_cg (fun i hi => hs i (by simp [hop, IOp.slots, hi])) hmT
    simp only [runOp, hop, ← e1] at h ⊢
    refine pure_case h ?_
    cases hav : addrF s1.E o.maskT o.maskA y with
    | none => rfl
    | some av =>
      simp only [Option.bind_some]
      congr 1
      cases av with
      | imm cs => rfl
      | loc t off =>
        obtain ⟨k1, k2⟩ := loc_var hav hfe'
        simp only [AV.get]
        rw [hrv t (by simp [hop, IOp.rv, k1, k2])]
      | ref b off =>
        have := ha.H b (by simp only [foot, hop, IOp.rb]; exact ref_named hav hm)
        simp only [AV.get, this]
  | store n y v =>
    have hfe' : (o.maskT.isEmpty && o.maskA.isEmpty) = false := by simp only [fenced, hop, Bool.not_eq_true'] at hfe; exact hfe
    have e1 : addrF s1.E o.maskT o.maskA y = addrF s2.E o.maskT o.maskA y := addrF_cg (fun i hi => hs i (by simp [hop, IOp.slots, hi])) hmT
    have e2 := ev v (by simp_all [IOp.slots])
    simp only [runOp, hop, Option.bind_eq_some_iff] at h
    obtain ⟨av, hav, u, hu, h⟩ := h
    split at h
    · rename_i hcond
      simp only [Option.bind_eq_some_iff, Option.some.injEq, Prod.mk.injEq] at h
      obtain ⟨st, hst, rfl, rfl⟩ := h
      have hrun : ∀ s2', AV.put s2 u.cells av = some s2' → runOp call base o s2 = some (.val .undef, s2') := fun s2' hp => by
        simp only [runOp, hop, ← e1, ← e2, hav, hu, Option.bind_some, hcond, and_self, if_true, hp]
      cases av with
      | imm cs => simp [AV.put] at hst
      | loc t off =>
        obtain ⟨k1, k2⟩ := loc_var hav hfe'
        have ht : t ∈ o.op.wv o.maskT o.maskA := by simp [hop, IOp.wv, k1, k2]
        have et := hrv t (by simp [hop, IOp.rv, k1, k2])
        simp only [AV.put] at hst
        cases hE : s1.E t <;> simp only [hE, reduceCtorEq, Option.bind_eq_some_iff, Option.some.injEq] at hst
        obtain ⟨cs', hcs, rfl⟩ := hst
        refine ⟨⟨fun i hi => ?_, fun _ _ => rfl, fun _ => rfl, rfl⟩, { s2 with E := upd s2.E t (.var cs') }, hrun _ (by simp only [AV.put, ← et, hE, hcs, Option.bind_some]), fun i hi => ?_, fun b hb => ?_, fun hn => ?_⟩
        · have : i ≠ t := fun e => hi (e ▸ ht)
          simp [upd, this]
        · simp only [upd]
          split
          · rfl
          · exact hrv i (by simpa [hop, IOp.wv, IOp.rv] using hi)
        · simp only [foot, hop, IOp.wb, fenceB, k1, if_true] at hb
          rw [k1, Bool.true_and] at hfe'
          simp [hfe', BS.has] at hb
        · simp [foot, hop, IOp.wn] at hn
      | ref b off =>
        have hb := ref_named (base := base) hav hm
        have eH := ha.H b (by simp only [foot, hop, IOp.rb]; exact hb)
        simp only [AV.put] at hst
        split at hst
        · rename_i cs hcs
          split at hst
          · rename_i hfl
            simp only [Option.bind_eq_some_iff, Option.some.injEq] at hst
            obtain ⟨cs', hcs', rfl⟩ := hst
            refine ⟨⟨fun i hi => rfl, fun b' hb' => ?_, fun _ => rfl, rfl⟩, { s2 with H := upd s2.H b (some (.cells cs')) }, hrun _ (by simp only [AV.put, ← eH, hcs, ← ha.floor, hfl, if_true, hcs', Option.bind_some]), fun i hi => hrv i (by simpa [hop, IOp.wv, IOp.rv] using hi), fun b' hb' => ?_, fun hn => ?_⟩
            · have : b' ≠ b := fun e => hb' (by rw [e]; simp only [foot, hop, IOp.wb]; exact hb)
              simp [upd, this]
            · simp only [upd]
              split
              · rfl
              · exact ha.H b' (by simpa only [foot, hop, IOp.wb, IOp.rb] using hb')
            · simp [foot, hop, IOp.wn] at hn
          · cases hst
        · cases hst
    · cases h
  | faddr off y =>
    refine still_foot (by simp [hop, IOp.wv]) (by simp [hop, IOp.wb]) (by simp [hop, IOp.wn]) ?_
    simp only [runOp, hop] at h ⊢
    exact slot_case h (ad y (by simp_all [IOp.slots]))
  | field agg off n y =>
    refine still_foot (by simp [hop, IOp.wv]) (by simp [hop, IOp.wb]) (by simp [hop, IOp.wn]) ?_
    simp only [runOp, hop] at h ⊢
    exact pure_case h (by rw [ev y (by simp_all [IOp.slots])])
  | iaddrA len sz y i =>
    refine still_foot (by simp [hop, IOp.wv]) (by simp [hop, IOp.wb]) (by simp [hop, IOp.wn]) ?_
    simp only [runOp, hop, Option.bind_eq_some_iff, Option.some.injEq, Prod.mk.injEq] at h ⊢
    rw [← ad y (by simp_all [IOp.slots]), ← ev i (by simp_all [IOp.slots])]
    obtain ⟨a, h1, b, h2, c, h3, h4, h5⟩ := h
    exact ⟨h5.symm, a, h1, b, h2, c, h3, h4, trivial⟩
  | iaddrS sz y i =>
    refine still_foot (by simp [hop, IOp.wv]) (by simp [hop, IOp.wb]) (by simp [hop, IOp.wn]) ?_
    simp only [runOp, hop] at h ⊢
    exact pure_case h (by rw [ev y (by simp_all [IOp.slots]), ev i (by simp_all [IOp.slots])])
  | idxA agg len sz y i =>
    refine still_foot (by simp [hop, IOp.wv]) (by simp [hop, IOp.wb]) (by simp [hop, IOp.wn]) ?_
    simp only [runOp, hop] at h ⊢
    exact pure_case h (by rw [ev y (by simp_all [IOp.slots]), ev i (by simp_all [IOp.slots])])
  | idxS y i =>
    refine still_foot (by simp [hop, IOp.wv]) (by simp [hop, IOp.wb]) (by simp [hop, IOp.wn]) ?_
    simp only [runOp, hop] at h ⊢
    exact pure_case h (by rw [ev y (by simp_all [IOp.slots]), ev i (by simp_all [IOp.slots])])
  | build z ps =>
    refine still_foot (by simp [hop, IOp.wv]) (by simp [hop, IOp.wb]) (by simp [hop, IOp.wn]) ?_
    simp only [runOp, hop] at h ⊢
    exact pure_case h (by rw [parts_cg fun i hi => hs i (by simpa [hop, IOp.slots] using hi)])
  | buildS mu sz len z ps =>
    have e := parts_cg (ps := ps) fun i hi => hs i (by simpa [hop, IOp.slots] using hi)
    simp only [runOp, hop, Option.bind_eq_some_iff] at h
    obtain ⟨qs, hqs, cs, hcs, h⟩ := h
    rw [e] at hqs
    split at h
    · rename_i hlen
      cases mu with
      | true =>
        simp only [if_true, Option.some.injEq, Prod.mk.injEq] at h
        refine make_foot (blk := .cells cs) (by simp [hop, IOp.wv]) (by simp [hop, IOp.wb]) (by simp [hop, IOp.wn]) ⟨h.2.symm, ?_⟩
        simp only [runOp, hop, hqs, hcs, Option.bind_some, hlen, if_true, h.1]
      | false =>
        simp only [Bool.false_eq_true, if_false, Option.some.injEq, Prod.mk.injEq] at h
        refine still_foot (by simp [hop, IOp.wv]) (by simp [hop, IOp.wb]) (by simp [hop, IOp.wn]) ⟨h.2.symm, ?_⟩
        simp only [runOp, hop, hqs, hcs, Option.bind_some, hlen, if_true, Bool.false_eq_true, if_false, h.1]
    · cases h
  | bin op y z =>
    refine still_foot (by simp [hop, IOp.wv]) (by simp [hop, IOp.wb]) (by simp [hop, IOp.wn]) ?_
    simp only [runOp, hop] at h ⊢
    exact pure_case h (by rw [ev y (by simp_all [IOp.slots]), ev z (by simp_all [IOp.slots])])
  | eq neg ty y z =>
    refine still_foot (by simp [hop, IOp.wv]) (by simp [hop, IOp.wb]) (by simp [hop, IOp.wn]) ?_
    simp only [runOp, hop] at h ⊢
    refine pure_case h ?_
    rw [ev y (by simp_all [IOp.slots]), ev z (by simp_all [IOp.slots])]
    have : ∀ a b, eqV s1.H ty a b = eqV s2.H ty a b := fun a b => by
      cases ty with
      | ptr => rw [hall (by simp [hop, IOp.rb])]
      | bool => rfl
      | agg ks => rfl
      | map => rfl
    simp only [this]
  | un op y =>
    refine still_foot (by simp [hop, IOp.wv]) (by simp [hop, IOp.wb]) (by simp [hop, IOp.wn]) ?_
    simp only [runOp, hop] at h ⊢
    exact pure_case h (by rw [ev y (by simp_all [IOp.slots])])
  | conv k y =>
    refine still_foot (by simp [hop, IOp.wv]) (by simp [hop, IOp.wb]) (by simp [hop, IOp.wn]) ?_
    simp only [runOp, hop] at h ⊢
    exact pure_case h (by rw [ev y (by simp_all [IOp.slots])])
  | nilchk y =>
    refine still_foot (by simp [hop, IOp.wv]) (by simp [hop, IOp.wb]) (by simp [hop, IOp.wn]) ?_
    simp only [runOp, hop] at h ⊢
    rw [← ad y (by simp_all [IOp.slots]), ← ev y (by simp_all [IOp.slots])]
    cases hav : addrOf s1.E y with
    | some av =>
      simp only [hav, Option.some.injEq, Prod.mk.injEq] at h ⊢
      exact ⟨h.2.symm, h.1, trivial⟩
    | none =>
      simp only [hav] at h ⊢
      exact pure_case h rfl
  | extract i y =>
    refine still_foot (by simp [hop, IOp.wv]) (by simp [hop, IOp.wb]) (by simp [hop, IOp.wn]) ?_
    simp only [runOp, hop] at h ⊢
    exact pure_case h (by rw [ev y (by simp_all [IOp.slots])])
  | len k y =>
    refine still_foot (by simp [hop, IOp.wv]) (by simp [hop, IOp.wb]) (by simp [hop, IOp.wn]) ?_
    simp only [runOp, hop] at h ⊢
    refine pure_case h ?_
    rw [ev y (by simp_all [IOp.slots])]
    have : ∀ v, lenR s1.H k v = lenR s2.H k v := fun v => by
      cases k with
      | mp => rw [hall (by simp [hop, IOp.rb])]
      | str => cases v <;> rfl
      | sl => cases v <;> rfl
    simp only [this]
  | append m sz y z =>
    refine all_foot (by simp [hop, IOp.wv]) (by simp [hop, IOp.wb]) (by simp [hop, IOp.wn]) ?_
    have eH := hall (by simp [hop, IOp.rb])
    simp only [runOp, hop, Option.bind_eq_some_iff] at h
    obtain ⟨xv, hxv, yv, hyv, new, hnew, h⟩ := h
    rw [ev y (by simp_all [IOp.slots])] at hxv
    rw [ev z (by simp_all [IOp.slots])] at hyv
    rw [eH] at hnew
    have ef := ha.floor
    simp only [runOp, hop, hxv, hyv, hnew, Option.bind_some]
    cases xv <;> simp only [reduceCtorEq] at h ⊢
    · rename_i p es
      by_cases c1 : new.isEmpty = true
      · simp only [c1, if_true, Option.some.injEq, Prod.mk.injEq] at h ⊢
        exact ⟨s1.H, h.2.symm, h.1, by rw [eH]⟩
      · simp only [c1, if_false, Bool.false_eq_true] at h ⊢
        by_cases c2 : (es.length + new.length ≤ room ∧ headLen sz es = true ∧ headLen sz new = true)
        · simp only [c2, and_self, if_true] at h ⊢
          cases p with
          | no => simp only [reduceCtorEq] at h
          | full =>
            by_cases m2 : m = 2
            · simp only [m2, if_true, reduceCtorEq] at h
            · by_cases m1 : m = 1
              · simp only [m1, show ¬ (1 = 2) by decide, if_false, if_true, Option.some.injEq, Prod.mk.injEq] at h ⊢
                exact ⟨_, h.2.symm, h.1, by rw [eH]⟩
              · simp only [m1, m2, if_false, Option.some.injEq, Prod.mk.injEq] at h ⊢
                exact ⟨_, h.2.symm, h.1, by rw [eH]⟩
          | own b =>
            simp only [eH, ef] at h
            cases hb : s2.H b with
            | none => simp only [hb, reduceCtorEq] at h
            | some bl =>
              cases bl <;> simp only [hb, reduceCtorEq] at h ⊢
              rename_i sz' k
              split at h
              · rename_i c3
                simp only [Option.some.injEq, Prod.mk.injEq] at h
                refine ⟨upd s2.H b (some (.perm sz (k + new.length))), ?_, ?_⟩
                · rw [← h.2]; simp only [ef]
                · rw [if_pos c3, h.1]
              · cases h
        · simp only [c2, if_false, reduceCtorEq] at h
    · by_cases c1 : new.isEmpty = true
      · simp only [c1, if_true, Option.some.injEq, Prod.mk.injEq] at h ⊢
        exact ⟨s1.H, h.2.symm, h.1, by rw [eH]⟩
      · simp only [c1, if_false, Bool.false_eq_true, reduceCtorEq] at h
  | mkfn f cs =>
    refine still_foot (by simp [hop, IOp.wv]) (by simp [hop, IOp.wb]) (by simp [hop, IOp.wn]) ?_
    simp only [runOp, hop] at h ⊢
    exact pure_case h (by rw [evals_cg fun i hi => hs i (by simpa [hop, IOp.slots] using hi)])
  | call f as =>
    have e := evals_cg (xs := as) fun i hi => hs i (by simpa [hop, IOp.slots] using hi)
    simp only [runOp, hop, Option.bind_eq_some_iff, Option.some.injEq, Prod.mk.injEq] at h
    obtain ⟨vs, hvs, r, hr, rfl, rfl⟩ := h
    rw [e] at hvs
    obtain ⟨h1, s2', h2, h3⟩ := call_foot (ρ := ρ) (s2 := s2) (F := foot md o) (m := md f) hc hmT hm (by simp [foot, hop, IOp.rb]) (by simp [foot, hop, IOp.wb]) (by simp [foot, hop, IOp.rn]) (by simp [foot, hop, IOp.wn]) (.inr rfl) ha.H ha.next ha.floor hr
    have hw : o.op.wv o.maskT o.maskA = [] := by simp [hop, IOp.wv]
    unfold Keeps
    rw [hw]
    exact ⟨h1, s2', by simp only [runOp, hop, hvs, Option.bind_some, h2], h3⟩
  | callv y as =>
    have e := evals_cg (xs := as) fun i hi => hs i (by simp only [hop, IOp.slots]; exact List.mem_append_right _ hi)
    simp only [runOp, hop, Option.bind_eq_some_iff] at h
    obtain ⟨v, hv, vs, hvs, h⟩ := h
    rw [e] at hvs
    rw [ev y (by simp_all [IOp.slots])] at hv
    split at h
    · rename_i f cap
      simp only [Option.bind_eq_some_iff, Option.some.injEq, Prod.mk.injEq] at h
      obtain ⟨r, hr, rfl, rfl⟩ := h
      obtain ⟨h1, s2', h2, h3⟩ := call_foot (ρ := ρ) (s2 := s2) (F := foot md o) (m := 2) hc hmT hm (by simp [foot, hop, IOp.rb]) (by simp [foot, hop, IOp.wb]) (by simp [foot, hop, IOp.rn]) (by simp [foot, hop, IOp.wn]) (.inl rfl) ha.H ha.next ha.floor hr
      have hw : o.op.wv o.maskT o.maskA = [] := by simp [hop, IOp.wv]
      unfold Keeps
      rw [hw]
      exact ⟨h1, s2', by simp only [runOp, hop, hv, hvs, Option.bind_some, h2], h3⟩
    · cases h
  | sliceStr y lo hi =>
    refine still_foot (by simp [hop, IOp.wv]) (by simp [hop, IOp.wb]) (by simp [hop, IOp.wn]) ?_
    simp only [runOp, hop] at h ⊢
    refine pure_case h ?_
    rw [ev y (by simp_all [IOp.slots])]
    have e1 := fun d n => bd lo d n (by simp_all [IOp.slots])
    have e2 := fun d n => bd hi d n (by simp_all [IOp.slots])
    simp only [e1, e2]
  | sliceL sz y lo hi mx =>
    refine still_foot (by simp [hop, IOp.wv]) (by simp [hop, IOp.wb]) (by simp [hop, IOp.wn]) ?_
    simp only [runOp, hop] at h ⊢
    refine pure_case h ?_
    rw [ev y (by simp_all [IOp.slots])]
    have e1 := fun d n => bd lo d n (by simp_all [IOp.slots])
    have e2 := fun d n => bd hi d n (by simp_all [IOp.slots])
    have e3 : ∀ m, mx = some m → ∀ d n, bnd? s1.E (some m) d n = bnd? s2.E (some m) d n := fun m hm' d n => by
      rw [← hm']; exact bd mx d n (by simp_all [IOp.slots])
    cases mx with
    | none => simp only [e1, e2]
    | some m => simp only [e1, e2, e3 m rfl]
  | sliceA len sz y lo hi =>
    refine still_foot (by simp [hop, IOp.wv]) (by simp [hop, IOp.wb]) (by simp [hop, IOp.wn]) ?_
    simp only [runOp, hop, Option.bind_eq_some_iff] at h
    obtain ⟨a, h1, b, h2, c, h3, h⟩ := h
    rw [ad y (by simp_all [IOp.slots])] at h1
    rw [bd hi _ _ (by simp_all [IOp.slots])] at h2
    rw [bd lo _ _ (by simp_all [IOp.slots])] at h3
    simp only [runOp, hop, h1, h2, h3, Option.bind_some]
    cases a with
    | ref b off =>
      simp only [Option.some.injEq, Prod.mk.injEq] at h ⊢
      exact ⟨h.2.symm, h.1, trivial⟩
    | imm cs => exact slot_case h rfl
    | loc t off => cases h
  | s2a len sz y =>
    refine still_foot (by simp [hop, IOp.wv]) (by simp [hop, IOp.wb]) (by simp [hop, IOp.wn]) ?_
    simp only [runOp, hop] at h ⊢
    exact pure_case h (by rw [ev y (by simp_all [IOp.slots])])
  | mkslice sz z l =>
    simp only [runOp, hop, Option.bind_eq_some_iff, Option.some.injEq, Prod.mk.injEq] at h
    obtain ⟨v, hv, n, hn, h1, h2⟩ := h
    refine make_foot (blk := .cells (List.replicate n z).flatten) (by simp [hop, IOp.wv]) (by simp [hop, IOp.wb]) (by simp [hop, IOp.wn]) ⟨h2.symm, ?_⟩
    rw [ev l (by simp_all [IOp.slots])] at hv
    simp only [runOp, hop, hv, hn, Option.bind_some, h1]
  | mkmap =>
    refine make_foot (blk := .map []) (by simp [hop, IOp.wv]) (by simp [hop, IOp.wb]) (by simp [hop, IOp.wn]) ?_
    simp only [runOp, hop, Option.some.injEq, Prod.mk.injEq] at h ⊢
    exact ⟨h.2.symm, h.1, trivial⟩
  | lookup ks ok z y i =>
    refine still_foot (by simp [hop, IOp.wv]) (by simp [hop, IOp.wb]) (by simp [hop, IOp.wn]) ?_
    simp only [runOp, hop] at h ⊢
    refine pure_case h ?_
    rw [ev y (by simp_all [IOp.slots]), ev i (by simp_all [IOp.slots]), hall (by simp [hop, IOp.rb])]
  | mapupd ks y k v =>
    refine all_foot (by simp [hop, IOp.wv]) (by simp [hop, IOp.wb]) (by simp [hop, IOp.wn]) ?_
    have eH := hall (by simp [hop, IOp.rb])
    have ef := ha.floor
    simp only [runOp, hop, Option.bind_eq_some_iff] at h
    obtain ⟨mv, hmv, kv, hkv, vv, hvv, h⟩ := h
    rw [ev y (by simp_all [IOp.slots])] at hmv
    rw [ev k (by simp_all [IOp.slots])] at hkv
    rw [ev v (by simp_all [IOp.slots])] at hvv
    simp only [runOp, hop, hmv, hkv, hvv, Option.bind_some]
    cases mv <;> simp only [reduceCtorEq] at h ⊢
    rename_i b
    simp only [eH, ef] at h
    cases hb : s2.H b with
    | none => simp only [hb, reduceCtorEq] at h
    | some bl =>
      cases bl <;> simp only [hb, reduceCtorEq] at h ⊢
      split at h
      · rename_i c3
        simp only [Option.bind_eq_some_iff, Option.some.injEq, Prod.mk.injEq] at h
        obtain ⟨es', he, h1, h2⟩ := h
        refine ⟨upd s2.H b (some (.map es')), ?_, ?_⟩
        · rw [← h2]; simp only [ef]
        · rw [if_pos c3, he, Option.bind_some, h1]
      · cases h
  | mapdel ks y k =>
    refine all_foot (by simp [hop, IOp.wv]) (by simp [hop, IOp.wb]) (by simp [hop, IOp.wn]) ?_
    have eH := hall (by simp [hop, IOp.rb])
    have ef := ha.floor
    simp only [runOp, hop, Option.bind_eq_some_iff] at h
    obtain ⟨mv, hmv, kv, hkv, h⟩ := h
    rw [ev y (by simp_all [IOp.slots])] at hmv
    rw [ev k (by simp_all [IOp.slots])] at hkv
    simp only [runOp, hop, hmv, hkv, Option.bind_some]
    cases mv <;> simp only [reduceCtorEq] at h ⊢
    rename_i b
    simp only [eH, ef] at h
    cases hb : s2.H b with
    | none => simp only [hb, reduceCtorEq] at h
    | some bl =>
      cases bl <;> simp only [hb, reduceCtorEq] at h ⊢
      split at h
      · rename_i c3
        simp only [Option.bind_eq_some_iff, Option.some.injEq, Prod.mk.injEq] at h
        obtain ⟨es', he, h1, h2⟩ := h
        refine ⟨upd s2.H b (some (.map es')), ?_, ?_⟩
        · rw [← h2]; simp only [ef]
        · rw [if_pos c3, he, Option.bind_some, h1]
      · cases h
  | strOf y =>
    refine still_foot (by simp [hop, IOp.wv]) (by simp [hop, IOp.wb]) (by simp [hop, IOp.wn]) ?_
    simp only [runOp, hop] at h ⊢
    exact pure_case h (by rw [ev y (by simp_all [IOp.slots]), hall (by simp [hop, IOp.rb])])
  | maxmin mx xs =>
    refine still_foot (by simp [hop, IOp.wv]) (by simp [hop, IOp.wb]) (by simp [hop, IOp.wn]) ?_
    simp only [runOp, hop] at h ⊢
    exact pure_case h (by rw [evals_cg fun i hi => hs i (by simpa [hop, IOp.slots] using hi)])

end
end Go.Abs
