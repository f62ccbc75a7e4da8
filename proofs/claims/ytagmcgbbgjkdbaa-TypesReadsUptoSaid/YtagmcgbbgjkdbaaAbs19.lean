/-
  FUNCTIONS, CALLS: the abstract machine is sound.
-/
import Derived.Test.YtagmcgbbgjkdbaaAbs18
set_option linter.all false
namespace Go.Abs
open Go

section
variable {P : Program} {B n na : Nat} {Γ Γ' Γ2 : Imm} {L L' L2 : Locs} {s s' s'' : St} {a : Act} {w w' : World} {H H' : Nat → Option Blk} {next next' base floor : Nat} {c : Ctx} {o : Oper} {io : IOper} {Q : Exit → Act → World → Prop}

/-! ### what leaves a call -/

structure SealOK (floor : Nat) (cv : Nat → Nat → Nat → Nat → Option (List (List V))) (Γ : Imm) (L : Locs) (Γ2 : Imm) (L2 : Locs) : Prop where
  imm : Γ.le Γ2
  low : ∀ b, b < floor → L2.blk b = L.blk b ∧ ∀ k, L2.perm b k = L.perm b k
  cv : ∀ b off sz k es x, floor ≤ b → cv b off sz k = some es → Rep Γ L (.buf b off sz k) x → Rep Γ2 L2 (.list .no es) x

mutual
theorem seal_rep {cv : Nat → Nat → Nat → Nat → Option (List (List V))} (h : SealOK floor cv Γ L Γ2 L2) : ∀ (v v' : V) (x : Value), sealV floor cv v = some v' → Rep Γ L v x → Rep Γ2 L2 v' x
  | .int k m, v', x, hs, hr => by simp only [sealV, Option.some.injEq] at hs; subst hs; cases hr; exact .int _ _
  | .bool b, v', x, hs, hr => by simp only [sealV, Option.some.injEq] at hs; subst hs; cases hr; exact .bool _
  | .str b, v', x, hs, hr => by simp only [sealV, Option.some.injEq] at hs; subst hs; cases hr with | str _ b h => exact .str _ _ h
  | .nilp, v', x, hs, hr => by simp only [sealV, Option.some.injEq] at hs; subst hs; cases hr; exact .nilp
  | .ref b o, v', x, hs, hr => by
    simp only [sealV] at hs
    split at hs
    · rename_i hb
      injection hs with hs; subst hs
      cases hr with | ref _ _ r hl => exact .ref b o r (by rw [(h.low b hb).1]; exact hl)
    · cases hs
  | .pim cs, v', x, hs, hr => by
    simp only [sealV, Option.bind_eq_some_iff, Option.some.injEq] at hs
    obtain ⟨cs', h1, rfl⟩ := hs
    obtain ⟨hl, hq⟩ := seal_reps h cs cs' h1
    cases hr with
    | pim _ r off gs vals hg hv hrr =>
      obtain ⟨t, ht⟩ := h.imm _ _ hg
      have key : ∀ (j : Nat) (c' : V), cs'[j]? = some c' → ∃ cc, cs[j]? = some cc := fun j c' hc => by
        have hlt := (List.getElem?_eq_some_iff.1 hc).1
        exact ⟨cs[j]'(by omega), List.getElem?_eq_getElem _⟩
      refine .pim cs' r off (gs ++ t) vals ht (fun j c' hc => ?_) (fun j c' hc => ?_)
      · obtain ⟨cc, hcc⟩ := key j c' hc; exact get_append (hv j cc hcc)
      · obtain ⟨cc, hcc⟩ := key j c' hc; exact hq j cc c' hcc hc _ (hrr j cc hcc)
  | .list p es, v', x, hs, hr => by
    simp only [sealV, Option.bind_eq_some_iff, Option.some.injEq] at hs
    obtain ⟨es', h1, rfl⟩ := hs
    obtain ⟨hl, hq⟩ := seal_repss h es es' h1
    obtain ⟨ad, cap, sz, gs, vals, rfl, r1, r2, r3, r4, r5, r6, r7⟩ := hr.inv_list
    have key : ∀ (i : Nat) (e' : List V), es'[i]? = some e' → ∃ e, es[i]? = some e ∧ e'.length = e.length := fun i e' he => by
      have hlt := (List.getElem?_eq_some_iff.1 he).1
      have hg : es[i]? = some (es[i]'(by omega)) := List.getElem?_eq_getElem _
      exact ⟨_, hg, (hq i _ e' hg he).1⟩
    have key2 : ∀ (i j : Nat) (e' : List V) (c' : V), es'[i]? = some e' → e'[j]? = some c' → ∃ e cc, es[i]? = some e ∧ e[j]? = some cc ∧ ∀ x, Rep Γ L cc x → Rep Γ2 L2 c' x := fun i j e' c' he hc => by
      obtain ⟨e, hg, hlen⟩ := key i e' he
      have hlt := (List.getElem?_eq_some_iff.1 hc).1
      have hcc : e[j]? = some (e[j]'(by omega)) := List.getElem?_eq_getElem _
      exact ⟨e, _, hg, hcc, (hq i e e' hg he).2 j _ c' hcc hc⟩
    rw [show Value.slice ad es.length cap = .slice ad es'.length cap by rw [hl]]
    have own2 : ∀ b, sealP floor p = .own b → p = .own b ∧ b < floor := by
      intro b hb
      cases p with
      | own b' =>
        simp only [sealP] at hb
        split at hb
        · rename_i hlt; injection hb with hb; subst hb; exact ⟨rfl, hlt⟩
        · cases hb
      | no => cases hb
      | full => cases hb
    by_cases hne : es = []
    · subst hne
      have : es' = [] := List.eq_nil_of_length_eq_zero (by simpa using hl)
      subst this
      refine .list _ [] ad cap sz [] vals (by simp) (by simp) (by simp) (by simp) (by simpa using r5) (fun hp => ?_) (fun b hb => ?_)
      · have : p = .full := by
          cases p with
          | own b' => simp only [sealP] at hp; split at hp <;> cases hp
          | no => cases hp
          | full => cases hp
        exact r6 this
      · obtain ⟨e1, e2⟩ := own2 b hb
        obtain ⟨q1, q2⟩ := r7 b e1
        exact ⟨by rw [(h.low b e2).2]; exact q1, q2⟩
    · obtain ⟨ad', e', hsp, hg⟩ := r2 hne
      obtain ⟨t, ht⟩ := h.imm _ _ hg
      refine .list _ es' ad cap sz (gs ++ t) vals (fun e' he => ?_) (fun _ => ⟨ad', by assumption, hsp, ht⟩) (fun ad'' had i j e' c' hi hj => ?_) (fun i j e' c' hi hj => ?_) (by rw [hl]; exact r5) (fun hp => ?_) (fun b hb => ?_)
      · obtain ⟨i, hi⟩ := List.mem_iff_getElem?.1 he
        obtain ⟨e, hg, hlen⟩ := key i e' hi
        rw [hlen]; exact r1 e (List.mem_of_getElem? hg)
      · obtain ⟨e, cc, g1, g2, _⟩ := key2 i j e' c' hi hj
        exact get_append (r3 ad'' had i j e cc g1 g2)
      · obtain ⟨e, cc, g1, g2, g3⟩ := key2 i j e' c' hi hj
        exact g3 _ (r4 i j e cc g1 g2)
      · have : p = .full := by
          cases p with
          | own b' => simp only [sealP] at hp; split at hp <;> cases hp
          | no => cases hp
          | full => cases hp
        rw [hl]; exact r6 this
      · obtain ⟨e1, e2⟩ := own2 b hb
        obtain ⟨q1, q2⟩ := r7 b e1
        exact ⟨by rw [(h.low b e2).2, hl]; exact q1, q2⟩
  | .buf b o sz k, v', x, hs, hr => by
    simp only [sealV] at hs
    split at hs
    · rename_i hb
      injection hs with hs; subst hs
      cases hr with | buf _ _ _ _ r ad cap hl ha hcap => exact .buf b o sz k r ad cap (by rw [(h.low b hb).1]; exact hl) ha hcap
    · rename_i hb
      simp only [Option.bind_eq_some_iff, Option.some.injEq] at hs
      obtain ⟨es, h1, rfl⟩ := hs
      exact h.cv b o sz k es x (by omega) h1 hr
  | .mapr b, v', x, hs, hr => by
    simp only [sealV] at hs
    split at hs
    · rename_i hb
      injection hs with hs; subst hs
      cases hr with | mapr _ r hl => exact .mapr b r (by rw [(h.low b hb).1]; exact hl)
    · cases hs
  | .nilm, v', x, hs, hr => by simp only [sealV, Option.some.injEq] at hs; subst hs; cases hr; exact .nilm
  | .fn f cap, v', x, hs, hr => by
    simp only [sealV, Option.bind_eq_some_iff, Option.some.injEq] at hs
    obtain ⟨cs', h1, rfl⟩ := hs
    obtain ⟨hl, hq⟩ := seal_reps h cap cs' h1
    obtain ⟨xs, rfl, hrr⟩ := hr.inv_fn
    exact Rep.fn' ⟨by rw [hl, hrr.1], fun j c' x hc hx => by
      have hlt := (List.getElem?_eq_some_iff.1 hc).1
      have hcc : cap[j]? = some (cap[j]'(by omega)) := List.getElem?_eq_getElem _
      exact hq j _ c' hcc hc x (hrr.2 j _ x hcc hx)⟩
  | .nilf, v', x, hs, hr => by simp only [sealV, Option.some.injEq] at hs; subst hs; cases hr; exact .nilf
  | .agg cs, v', x, hs, hr => by
    simp only [sealV, Option.bind_eq_some_iff, Option.some.injEq] at hs
    obtain ⟨cs', h1, rfl⟩ := hs
    obtain ⟨hl, hq⟩ := seal_reps h cs cs' h1
    obtain ⟨xs, rfl, hrr⟩ := hr.inv_agg
    exact Rep.agg' ⟨by rw [hl, hrr.1], fun j c' x hc hx => by
      have hlt := (List.getElem?_eq_some_iff.1 hc).1
      have hcc : cs[j]? = some (cs[j]'(by omega)) := List.getElem?_eq_getElem _
      exact hq j _ c' hcc hc x (hrr.2 j _ x hcc hx)⟩
  | .tup cs, v', x, hs, hr => by
    simp only [sealV, Option.bind_eq_some_iff, Option.some.injEq] at hs
    obtain ⟨cs', h1, rfl⟩ := hs
    obtain ⟨hl, hq⟩ := seal_reps h cs cs' h1
    obtain ⟨xs, rfl, hrr⟩ := hr.inv_tup
    exact Rep.tup' ⟨by rw [hl, hrr.1], fun j c' x hc hx => by
      have hlt := (List.getElem?_eq_some_iff.1 hc).1
      have hcc : cs[j]? = some (cs[j]'(by omega)) := List.getElem?_eq_getElem _
      exact hq j _ c' hcc hc x (hrr.2 j _ x hcc hx)⟩
  | .undef, v', x, hs, hr => by simp only [sealV, Option.some.injEq] at hs; subst hs; cases hr; exact .undef
theorem seal_reps {cv : Nat → Nat → Nat → Nat → Option (List (List V))} (h : SealOK floor cv Γ L Γ2 L2) : ∀ (cs cs' : List V), sealL floor cv cs = some cs' → cs'.length = cs.length ∧ ∀ (j : Nat) c c', cs[j]? = some c → cs'[j]? = some c' → ∀ x, Rep Γ L c x → Rep Γ2 L2 c' x
  | [], cs', hs => by simp only [sealL, Option.some.injEq] at hs; subst hs; exact ⟨rfl, fun j c c' h => by simp at h⟩
  | v :: vs, cs', hs => by
    simp only [sealL, Option.bind_eq_some_iff, Option.some.injEq] at hs
    obtain ⟨v', h1, vs', h2, rfl⟩ := hs
    obtain ⟨hl, hq⟩ := seal_reps h vs vs' h2
    refine ⟨by simp [hl], fun j c c' hc hc' x hr => ?_⟩
    cases j with
    | zero =>
      simp only [List.getElem?_cons_zero, Option.some.injEq] at hc hc'
      subst hc; subst hc'
      exact seal_rep h v v' x h1 hr
    | succ j => exact hq j c c' (by simpa using hc) (by simpa using hc') x hr
theorem seal_repss {cv : Nat → Nat → Nat → Nat → Option (List (List V))} (h : SealOK floor cv Γ L Γ2 L2) : ∀ (es es' : List (List V)), sealLL floor cv es = some es' → es'.length = es.length ∧ ∀ (i : Nat) e e', es[i]? = some e → es'[i]? = some e' → e'.length = e.length ∧ ∀ (j : Nat) c c', e[j]? = some c → e'[j]? = some c' → ∀ x, Rep Γ L c x → Rep Γ2 L2 c' x
  | [], es', hs => by simp only [sealLL, Option.some.injEq] at hs; subst hs; exact ⟨rfl, fun j c c' h => by simp at h⟩
  | e :: es, es', hs => by
    simp only [sealLL, Option.bind_eq_some_iff, Option.some.injEq] at hs
    obtain ⟨e', h1, vs', h2, rfl⟩ := hs
    obtain ⟨hl, hq⟩ := seal_repss h es vs' h2
    refine ⟨by simp [hl], fun i d d' hd hd' => ?_⟩
    cases i with
    | zero =>
      simp only [List.getElem?_cons_zero, Option.some.injEq] at hd hd'
      subst hd; subst hd'
      exact seal_reps h e e' h1
    | succ i => exact hq i d d' (by simpa using hd) (by simpa using hd')
end

/-- The blocks of cells that a call has made stay as they are, once it has returned. -/
noncomputable def frozenΓ (Γ' : Imm) (L' : Locs) (H' : Nat → Option Blk) (floor : Nat) (w' : World) : Imm := fun r =>
  open Classical in
  if h : ∃ b cs, floor ≤ b ∧ H' b = some (.cells cs) ∧ L'.blk b = some r then
    match w'.heap[r]? with
    | some (.cells arr _ _) => some arr.toList
    | _ => none
  else Γ' r

theorem frozen_le (hi : HInv Γ' L' H' next' w') : Γ'.le (frozenΓ Γ' L' H' floor w') := by
  intro r gs hg
  refine ⟨[], ?_⟩
  unfold frozenΓ
  split
  · rename_i h
    obtain ⟨b, cs, _, hb, hl⟩ := h
    obtain ⟨r', _, _, _, e, _, hn, _⟩ := hi.cells b cs hb
    rw [hl] at e; injection e with e; subst e
    rw [hn] at hg; cases hg
  · simpa using hg

theorem frozen_good (hi : HInv Γ' L' H' next' w') : ∀ r gs, frozenΓ Γ' L' H' floor w' r = some gs → ∃ arr el fz, w'.heap[r]? = some (.cells arr el fz) ∧ ∃ t, arr.toList = gs ++ t := by
  intro r gs hg
  unfold frozenΓ at hg
  split at hg
  · split at hg
    · rename_i arr el fz hw
      injection hg with hg
      subst hg
      exact ⟨arr, el, fz, hw, [], by simp⟩
    · cases hg
  · exact hi.imm r gs hg

theorem seal_of (hi : HInv Γ' L' H' next' w') (hlow : ∀ b, b < floor → L2.blk b = L'.blk b ∧ ∀ k, L2.perm b k = L'.perm b k) : SealOK floor (cvH floor H') Γ' L' (frozenΓ Γ' L' H' floor w') L2 where
  imm := frozen_le hi
  low := hlow
  cv b off sz k es x hb hcv hr := by
    unfold cvH at hcv
    split at hcv
    · rename_i cs hH
      rw [Option.bind_eq_some_iff] at hcv
      obtain ⟨cells, hg, hseal⟩ := hcv
      have h0 : SealOK floor cv0 Γ' L' (frozenΓ Γ' L' H' floor w') L2 := ⟨frozen_le hi, hlow, fun b off sz k es x _ h _ => by simp [cv0] at h⟩
      have h1 : SealOK floor cv0 (frozenΓ Γ' L' H' floor w') L' (frozenΓ Γ' L' H' floor w') L2 := ⟨Imm.le_refl _, hlow, fun b off sz k es x _ h _ => by simp [cv0] at h⟩
      cases hr with
      | buf _ _ _ _ r ad cap hl ha hcap =>
        obtain ⟨r', arr, el, t, e, hw, hn, ht, hreps⟩ := hi.cells b cs hH
        rw [hl] at e; injection e with e; subst e
        have hfz : frozenΓ Γ' L' H' floor w' r = some arr.toList := by
          unfold frozenΓ
          rw [dif_pos ⟨b, cs, hb, hH, hl⟩, hw]
        have hg' := hg
        obtain ⟨g1, rfl⟩ := getCells_spec hg
        have hlen := getCells_length hg'
        have hrep : Rep (frozenΓ Γ' L' H' floor w') L' (.list .no (chunks sz k ((cs.drop off).take (k * sz)))) (.slice ad k cap) := by
          by_cases hk : k = 0
          · subst hk
            simp only [chunks]
            exact .list .no [] ad cap sz [] (fun _ _ => Go.undef) (by simp) (by simp) (by simp) (by simp) (by simp) (by simp) (by simp)
          · rw [ha hk]
            refine list_of_cells (gs := arr.toList) (xs := ((arr.toList.take cs.length).drop off).take (k * sz)) hfz (fun j x hx => ?_) (((hreps.drop off).take _).mono (frozen_le hi) (Locs.le_refl _)) hlen hcap (fun h => by cases h) (fun b h => by cases h)
            rw [List.getElem?_take] at hx
            split at hx
            · rw [List.getElem?_drop, List.getElem?_take] at hx
              split at hx
              · exact hx
              · cases hx
            · cases hx
        exact seal_rep h1 _ _ _ (by simp [sealV, sealP, hseal]) hrep
    · cases hcv

/-! ### functions -/

def okRes (P : Program) : List IRes → List ResultVar → Bool
  | [], [] => true
  | .tmp t :: l, .tmp t' :: l' => decide (t = t') && okRes P l l'
  | .cell agg k t :: l, .cell t' ty :: l' => decide (t = t') && tAgg P ty agg && tSize P ty k && okRes P l l'
  | _, _ => false

def okFunc (P : Program) (dr : Nat → Nat → List IOper → Array Oper → Bool) (fn : Func) (ig : IFunc) : Bool :=
  (match fn.body with
  | some c => okCode P fn.ntmps (dr fn.ntmps) ig.body c
  | none => false) && okRes P ig.results fn.results.toList && !(fn.name == "runtime.NumGoroutine")

def resOne (tmps : Array Value) (r : ResultVar) : Sem Value :=
  match r with
  | .tmp t => pure (tmps.getD t Go.undef)
  | .cell ad t => do loadVar t (← asAddr (tmps.getD ad Go.undef))

theorem res_run (hg : Good c n Γ L s a.tmps w) : ∀ (l : List IRes) (l' : List ResultVar) (vs : List V), okRes P l l' = true → readRes s l = some vs →
    ∃ xs, (l'.mapM (resOne a.tmps)).run P w = .ok xs w ∧ Reps Γ L vs xs
  | [], [], vs, _, h => by simp only [readRes, Option.some.injEq] at h; subst h; exact ⟨[], by simp, .nil⟩
  | [], _ :: _, _, ok, _ => by simp [okRes] at ok
  | .tmp t :: l, l', vs, ok, h => by
    cases l' with
    | nil => simp [okRes] at ok
    | cons r l' =>
      cases r <;> simp only [okRes, Bool.false_eq_true] at ok
      rw [Bool.and_eq_true, decide_eq_true_eq] at ok
      obtain ⟨rfl, ok⟩ := ok
      simp only [readRes, Option.bind_eq_some_iff, Option.some.injEq] at h
      obtain ⟨v, hv, vs', hvs, rfl⟩ := h
      obtain ⟨xs, h1, h2⟩ := res_run hg l l' vs' ok hvs
      have hr := opd_rep hg.f (x := .t t) (X := .tmp t) (by simp [okOpd]) hv
      refine ⟨a.tmps.getD t Go.undef :: xs, ?_, .cons hr h2⟩
      rw [List.mapM_cons]
      simp only [resOne, Sem.run_bind, Sem.run_pure, Result.andThen_ok, h1]
  | .cell agg k t :: l, l', vs, ok, h => by
    cases l' with
    | nil => simp [okRes] at ok
    | cons r l' =>
      cases r <;> simp only [okRes, Bool.false_eq_true] at ok
      rename_i ty
      simp only [Bool.and_eq_true, decide_eq_true_eq] at ok
      obtain ⟨⟨⟨rfl, ok1⟩, ok2⟩, ok⟩ := ok
      simp only [readRes, Option.bind_eq_some_iff, Option.some.injEq] at h
      obtain ⟨v, ⟨av, hav, out, hout, hv⟩, vs', hvs, rfl⟩ := h
      obtain ⟨xs, h1, h2⟩ := res_run hg l l' vs' ok hvs
      have hok := addr_ok hg.f (x := .t t) (X := .tmp t) (by simp [okOpd]) hav
      obtain ⟨r, o, e⟩ := aok_ptr hok
      obtain ⟨x, g1, g2⟩ := load_here (P := P) hg.f ok1 ok2 (x := .t t) (X := .tmp t) (by simp [okOpd]) hav hout hv
      refine ⟨x :: xs, ?_, .cons g2 h2⟩
      have e' : a.tmps.getD t Go.undef = ptr r o := e
      rw [e] at g1
      have g1' : (loadVar ty ⟨r, o, none⟩).run P w = .ok x w := by simpa [Instr.loadAt, Instr.sureAddr] using g1
      rw [List.mapM_cons]
      have g2' : (resOne a.tmps (.cell t ty)).run P w = .ok x w := by simp only [resOne, e', Sem.run_bind, asAddr, Sem.run_pure, Result.andThen_ok, g1']
      simp only [Sem.run_bind, g2', Result.andThen_ok, h1, Sem.run_pure]

theorem argEnv_get : ∀ (vs : List V) (i j : Nat), mkEnv (argEnv i vs) j = match vs[j - i]? with | some v => if i ≤ j then .val v else .undef | none => .undef
  | [], i, j => by simp [argEnv, mkEnv]
  | v :: vs, i, j => by
    simp only [argEnv, mkEnv, argEnv_get vs (i + 1) j]
    by_cases h : j = i
    · subst h; simp
    · rw [if_neg h]
      by_cases h2 : i < j
      · obtain ⟨k, rfl⟩ : ∃ k, j = i + 1 + k := ⟨j - (i + 1), by omega⟩
        rw [show i + 1 + k - (i + 1) = k by omega, show i + 1 + k - i = k + 1 by omega, List.getElem?_cons_succ]
        simp only [show i + 1 ≤ i + 1 + k by omega, show i ≤ i + 1 + k by omega, if_true]
      · rw [show j - (i + 1) = 0 by omega, show j - i = 0 by omega]
        simp only [List.getElem?_cons_zero, show ¬ i ≤ j by omega, if_false]
        cases vs <;> simp
        omega

/-- A function's body, from its arguments to its result. -/
theorem run_sound {call : CallF} (htbl : TableOK P call) {okc : CallF → Prop} (hokc : okc call) {dr : Nat → Nat → List IOper → Array Oper → Bool} (hdr : ∀ n, DrawOK P okc n (dr n)) (lf : Nat) {f : Nat} {fn : Func} {ig : IFunc} (hfn : P.funcs[f]? = some fn) (ok : okFunc P dr fn ig = true)
    {args : List V} {h h' : HS} {v : V} (hfl : h.floor ≤ h.next) (hr : runFn call lf ig args h = some (v, h')) : CallOK P f args h v h' := by
  intro Γ L w xs hi hargs
  unfold okFunc at ok
  simp only [Bool.and_eq_true] at ok
  obtain ⟨⟨ok1, ok2⟩, _⟩ := ok
  cases hbody : fn.body with
  | none => simp [hbody] at ok1
  | some co =>
    simp only [hbody] at ok1
    unfold runFn at hr
    rw [Option.bind_eq_some_iff] at hr
    obtain ⟨⟨e, s1⟩, hx, hr⟩ := hr
    have henv : ∀ j sl, mkEnv (argEnv 0 args) j = sl → sl = .undef ∨ ∃ v, sl = .val v ∧ args[j]? = some v := by
      intro j sl h
      rw [argEnv_get] at h
      simp only [Nat.sub_zero, Nat.zero_le, if_true] at h
      cases hj : args[j]? with
      | none => rw [hj] at h; exact .inl h.symm
      | some v => rw [hj] at h; exact .inr ⟨v, h.symm, rfl⟩
    have hg0 : Good ⟨Γ, L, h, w⟩ fn.ntmps Γ L ⟨mkEnv (argEnv 0 args), h.H, h.next, h.floor⟩ (xs.toArray ++ Array.replicate (fn.ntmps - xs.toArray.size) Go.undef) w := by
      refine ⟨⟨by simp; omega, hi, fun t v ht => ?_, fun t cs ht => ?_, fun t t' cs cs' r ht => ?_, fun t t' o ht => ?_⟩, Since.refl _ _ _ _⟩
      · rcases henv t _ ht with h | ⟨v', h1, h2⟩
        · cases h
        · injection h1 with h1
          subst h1
          obtain ⟨x, hx1, hx2⟩ := hargs.get h2
          refine ⟨x, ?_, hx2⟩
          have hlt : t < xs.toArray.size := by simpa using (List.getElem?_eq_some_iff.1 hx1).1
          rw [Array.getElem?_append_left hlt]
          simpa using hx1
      · rcases henv t _ ht with h | ⟨v', h1, h2⟩
        · cases h
        · cases h1
      · rcases henv t _ ht with h | ⟨v', h1, h2⟩
        · cases h
        · cases h1
      · rcases henv t _ ht with h | ⟨v', h1, h2⟩
        · cases h
        · cases h1
    refine calls_of_wp hfn hbody (wp_mono (code_sound (a := { tmps := xs.toArray ++ Array.replicate (fn.ntmps - xs.toArray.size) Go.undef, defers := [] }) (c := ⟨Γ, L, h, w⟩) htbl hokc (hdr fn.ntmps) hfl lf ig.body co e Γ L _ s1 w ok1 hx hg0) ?_)
    rintro e' a' w' ⟨rfl, Γ', L', hg', hd'⟩
    have fin : (readRes s1 ig.results).bind (fun vs => some (packRes vs, (⟨s1.H, s1.next, h.floor⟩ : HS))) = some (v, h') → a'.defers = [] ∧ ∃ x, (results fn a'.tmps).run P w' = .ok x w' ∧
        ∃ x' Γ'' L'', Ending.returned x = .returned x' ∧ Rep Γ'' L'' v x' ∧ HInv Γ'' L'' h'.H h'.next w' ∧ Since Γ L h w Γ'' L'' h' w' := by
      intro hr
      rw [Option.bind_eq_some_iff] at hr
      obtain ⟨vs, hvs, hr⟩ := hr
      simp only [Option.some.injEq, Prod.mk.injEq] at hr
      obtain ⟨rfl, rfl⟩ := hr
      obtain ⟨ys, h1, h2⟩ := res_run (P := P) hg' ig.results fn.results.toList vs ok2 hvs
      have hs' := hg'.since
      have hfl' : s1.floor = h.floor := hs'.floor
      have hsince : Since Γ L h w Γ' L' ⟨s1.H, s1.next, h.floor⟩ w' := by rw [← hfl']; exact hs'
      refine ⟨hd', ?_⟩
      have hrun : (results fn a'.tmps).run P w' = .ok (if h : ys.toArray.size = 1 then ys.toArray[0] else .tuple ys.toArray) w' := by
        have e : results fn a'.tmps = (do let vs ← fn.results.mapM (resOne a'.tmps); pure (if h : vs.size = 1 then vs[0] else .tuple vs)) := by
          unfold results
          congr 2
        rw [e, Array.mapM_eq_mapM_toList]
        simp only [Sem.run_bind, Sem.run_map, h1, Result.andThen_ok, Sem.run_pure]
      refine ⟨_, hrun, _, Γ', L', rfl, ?_, hg'.f.heap, hsince⟩
      cases vs with
      | nil =>
        have := h2.inv_nil
        subst this
        exact Rep.tup' .nil
      | cons v0 vs =>
        obtain ⟨y, ys', rfl, hy, hys⟩ := h2.inv_cons
        cases vs with
        | nil =>
          have := hys.inv_nil
          subst this
          exact hy
        | cons v1 vs =>
          obtain ⟨y1, ys1, rfl, hy1, hys1⟩ := hys.inv_cons
          simp only [packRes]
          rw [dif_neg (by simp)]
          exact Rep.tup' (.cons hy (.cons hy1 hys1))
    cases e with
    | exit i => cases hr
    | normal => exact fin hr
    | ret => exact fin hr


/-! ### calls -/

/-- Every function of the table is one of the program's, and its IR has been checked. -/
def TabOK (P : Program) (dr : Nat → Nat → List IOper → Array Oper → Bool) (tbl : Nat → Option IFunc) : Prop :=
  ∀ f ig, tbl f = some ig → ∃ fn, P.funcs[f]? = some fn ∧ okFunc P dr fn ig = true

def noLocs : Locs := ⟨fun _ => none, fun _ _ => none⟩

/-- A call that is shown no block below 'fl' but to read, behind which nothing but its result is kept. -/
theorem kept_call {f : Nat} {args args' : List V} {h : HS} {Hc : Nat → Option Blk} {nx : Nat} {r v : V} {h' : HS} {Lc : Locs → Locs}
    (hcall : CallOK P f args' ⟨Hc, nx, nx⟩ r h')
    (hin : ∀ Γ L w, HInv Γ L h.H h.next w → HInv Γ (Lc L) Hc nx w ∧ (∀ b, b < nx → (Lc L).blk b = L.blk b ∧ ∀ k, (Lc L).perm b k = L.perm b k) ∧ ∀ xs, Reps Γ L args xs → Reps Γ (Lc L) args' xs)
    (hseal : sealV nx (cvH nx h'.H) r = some v) : CallOK P f args h v h := by
  intro Γ L w xs hi hargs
  obtain ⟨hic, hlow, hre⟩ := hin Γ L w hi
  refine (hcall Γ (Lc L) w xs hic (hre xs hargs)).mono fun e w' => ?_
  rintro ⟨x, Γ', L', rfl, hr, hi', hs⟩
  have hnone : ∀ b r, nx ≤ b → real (Lc L) Hc b ≠ some r := by
    intro b r hb hh
    rw [real, (hic.fresh b hb).1] at hh
    cases hh
  have hsl : SealOK nx (cvH nx h'.H) Γ' L' (frozenΓ Γ' L' h'.H nx w') L := seal_of hi' fun b hb => by
    obtain ⟨h1, h2⟩ := hlow b hb
    obtain ⟨g1, g2, _⟩ := hs.low b hb
    exact ⟨(g1.trans h1).symm, fun k => ((g2 k).trans (h2 k)).symm⟩
  have hE : Ext0 Γ w (frozenΓ Γ' L' h'.H nx w') w' :=
    ⟨Imm.le_trans hs.imm (frozen_le hi'), hs.os, hs.tape, hs.output, hs.size, fun r hr => by
      obtain ⟨h1, h2⟩ := hs.block r hr fun b hb => hnone b r hb
      refine ⟨h1, ?_⟩
      unfold frozenΓ
      split
      · rename_i hh
        obtain ⟨b, cs, hb, hH, hl⟩ := hh
        rcases hs.own b r hb (by simp [real, hH, hl]) with ⟨b', hb', hreal⟩ | hge
        · exact (hnone b' r hb' hreal).elim
        · omega
      · exact h2, frozen_good hi'⟩
  refine ⟨x, _, L, rfl, seal_rep hsl r v x hseal hr, hi.ext0 hE, ?_⟩
  exact ⟨hE.imm, Locs.le_refl _, hE.os, hE.tape, hE.output, hE.size, fun r hr _ => hE.block r hr, fun _ _ => ⟨rfl, fun _ => rfl, rfl⟩, fun _ _ h => ⟨h, rfl, fun _ => rfl⟩, fun b r h k => .inl ⟨b, h, k⟩, rfl, Nat.le_refl _⟩

/-- A function of the table is never called with a floor above what is next. -/
def FloorOK (call : CallF) : Prop := ∀ f args h v h', call f args h = some (v, h') → h'.floor = h.floor

theorem callN_floor {nat : Natives} {tbl : Nat → Option IFunc} : ∀ k, FloorOK (callN nat tbl k)
  | 0 => fun f args h v h' hc => by simp [callN] at hc
  | k + 1 => fun f args h v h' hc => by
    simp only [callN] at hc
    cases hig : tbl f with
    | none =>
      simp only [hig, Option.bind_eq_some_iff, Option.some.injEq, Prod.mk.injEq] at hc
      obtain ⟨_, _, _, rfl⟩ := hc
      rfl
    | some ig =>
    simp only [hig] at hc
    split at hc
    · simp only [Option.bind_eq_some_iff, Option.some.injEq, Prod.mk.injEq] at hc
      obtain ⟨_, _, _, _, _, _, _, rfl⟩ := hc
      rfl
    · simp only [Option.bind_eq_some_iff, Option.some.injEq, Prod.mk.injEq] at hc
      obtain ⟨_, _, _, _, _, rfl⟩ := hc
      rfl
    · unfold runFn at hc
      rw [Option.bind_eq_some_iff] at hc
      obtain ⟨⟨e, s1⟩, _, hc⟩ := hc
      cases e <;> simp only [reduceCtorEq, Option.bind_eq_some_iff, Option.some.injEq, Prod.mk.injEq] at hc <;> (obtain ⟨_, _, _, rfl⟩ := hc; rfl)


/-- The functions that are proved by hand. -/
def NatOK (P : Program) (nat : Natives) : Prop := ∀ f args h r, nat f args h = some r → h.floor ≤ h.next →
  CallOK P f args h r.1 ⟨r.2.H, r.2.next, h.floor⟩ ∧ ∃ fn, P.funcs[f]? = some fn ∧ fn.body.isNone = false ∧ (fn.name == "runtime.NumGoroutine") = false

theorem callN_sound {dr : Nat → Nat → List IOper → Array Oper → Bool} {okc : CallF → Prop} (hdr : ∀ n, DrawOK P okc n (dr n)) {nat : Natives} (hn : NatOK P nat) {tbl : Nat → Option IFunc} (hokc : ∀ k, okc (callN nat tbl k)) (ht : TabOK P dr tbl) : ∀ k, TableOK P (callN nat tbl k)
  | 0 => fun f args h v h' hc => by simp [callN] at hc
  | k + 1 => fun f args h v h' hc hfl => by
    have ih := callN_sound hdr hn hokc ht k
    have hfloor := callN_floor (nat := nat) (tbl := tbl) (k + 1) f args h v h' hc
    simp only [callN] at hc
    cases hig : tbl f with
    | none =>
      simp only [hig, Option.bind_eq_some_iff, Option.some.injEq, Prod.mk.injEq] at hc
      obtain ⟨u, hu, rfl, rfl⟩ := hc
      obtain ⟨h1, fn, h2, h3, h4⟩ := hn f args h u hu hfl
      exact ⟨h1, rfl, fn, h2, h3, h4⟩
    | some ig =>
    simp only [hig] at hc
    obtain ⟨fn, hfn, hok⟩ := ht f ig hig
    have hbody : fn.body.isNone = false := by
      unfold okFunc at hok
      simp only [Bool.and_eq_true] at hok
      cases hb : fn.body with
      | none => rw [hb] at hok; simp at hok
      | some c => rfl
    have hname : (fn.name == "runtime.NumGoroutine") = false := by
      unfold okFunc at hok
      simp only [Bool.and_eq_true] at hok
      simpa using hok.2
    refine ⟨?_, hfloor, fn, hfn, hbody, hname⟩
    split at hc
    · -- nothing but the arguments
      simp only [Option.bind_eq_some_iff, Option.some.injEq, Prod.mk.injEq] at hc
      obtain ⟨args', hargs, ⟨r, h1⟩, hrun, v', hseal, rfl, rfl⟩ := hc
      refine kept_call (Lc := fun _ => noLocs) (nx := 0) (run_sound ih (hokc k) hdr k hfn hok (Nat.le_refl _) hrun) (fun Γ L w hi => ⟨?_, fun b hb => by omega, fun xs hxs => ?_⟩) hseal
      · exact ⟨hi.imm, fun b cs h => by simp at h, fun b sz k h => by simp at h, fun b es h => by simp at h, fun b b' r h => by simp [real] at h, fun b _ => ⟨rfl, rfl, fun _ => rfl⟩⟩
      · have hs : SealOK 0 cv0 Γ L Γ noLocs := ⟨Imm.le_refl _, fun b hb => by omega, fun b off sz k es x _ h _ => by simp [cv0] at h⟩
        obtain ⟨hl, hq⟩ := seal_reps hs args args' hargs
        exact ⟨by rw [hl, hxs.1], fun j c' x hc' hx => by
          have hlt := (List.getElem?_eq_some_iff.1 hc').1
          have hcc : args[j]? = some (args[j]'(by omega)) := List.getElem?_eq_getElem _
          exact hq j _ c' hcc hc' x (hxs.2 j _ x hcc hx)⟩
    · -- what lies there may be read
      simp only [Option.bind_eq_some_iff, Option.some.injEq, Prod.mk.injEq] at hc
      obtain ⟨⟨r, h1⟩, hrun, v', hseal, rfl, rfl⟩ := hc
      exact kept_call (Lc := fun L => L) (nx := h.next) (run_sound ih (hokc k) hdr k hfn hok (Nat.le_refl _) hrun) (fun Γ L w hi => ⟨hi, fun b _ => ⟨rfl, fun _ => rfl⟩, fun xs hxs => hxs⟩) hseal
    · exact run_sound ih (hokc k) hdr k hfn hok hfl hc

end
end Go.Abs
