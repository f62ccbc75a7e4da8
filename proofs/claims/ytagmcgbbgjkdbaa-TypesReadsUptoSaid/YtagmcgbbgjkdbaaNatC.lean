/-
  slices.Clone, BY HAND: whether the slice is nil is asked of the model alone; both ways come to the same.
-/
import Derived.Test.YtagmcgbbgjkdbaaAbs26
import Derived.Test.YtagmcgbbgjkdbaaNat0
import Derived.Laws.Cover3
set_option linter.all false
namespace Go.Abs
open Go

section
variable {P : Program}

/-- A body that does what is said, from the arguments to the result. -/
theorem call_behind {f : Nat} {fn : Func} {co : Code} {res : List IRes} (hfn : P.funcs[f]? = some fn) (hbody : fn.body = some co) (ok2 : okRes P res fn.results.toList = true)
    {args : List V} {h h' : HS} {v : V} {Γ : Imm} {L : Locs} {w : World} {xs : List Value} (hi : HInv Γ L h.H h.next w) (hargs : Reps Γ L args xs) 
    (hwp : ∀ a : Act, Good ⟨Γ, L, h, w⟩ fn.ntmps Γ L ⟨mkEnv (argEnv 0 args), h.H, h.next, h.floor⟩ a.tmps w → a.defers = [] →
      co.wp P (fun e' a' w' => ∃ e s1, Behind ⟨Γ, L, h, w⟩ fn.ntmps a e s1 e' a' w' ∧ (match e with | .exit _ => none | _ => (readRes s1 res).bind fun vs => some (packRes vs, (⟨s1.H, s1.next, h.floor⟩ : HS))) = some (v, h')) a w) :
    Calls P f xs.toArray w fun e w' => ∃ x Γ' L', e = .returned x ∧ Rep Γ' L' v x ∧ HInv Γ' L' h'.H h'.next w' ∧ Since Γ L h w Γ' L' h' w' := by
  have henv : ∀ j sl, mkEnv (argEnv 0 args) j = sl → sl = .undef ∨ ∃ v, sl = .val v ∧ args[j]? = some v := by
    intro j sl h
    rw [argEnv_get] at h
    simp only [Nat.sub_zero, Nat.zero_le, if_true] at h
    cases hj : args[j]? with
    | none => rw [hj] at h; exact .inl h.symm
    | some v => rw [hj] at h; exact .inr ⟨v, h.symm, rfl⟩
  have hg0 : Good ⟨Γ, L, h, w⟩ fn.ntmps Γ L ⟨mkEnv (argEnv 0 args), h.H, h.next, h.floor⟩ (xs.toArray ++ Array.replicate (fn.ntmps - xs.toArray.size) Go.undef) w := by
    refine ⟨⟨by simp; omega, hi, fun t v ht => ?_, fun t cs ht => ?_, fun t t' cs cs' r ht => ?_, fun t t' o ht => ?_⟩, Since.refl _ _ _ _⟩
    · rcases henv t _ ht with h | ⟨v', h1, h2⟩
      · cases h
      · injection h1 with h1
        subst h1
        obtain ⟨x, hx1, hx2⟩ := hargs.get h2
        refine ⟨x, ?_, hx2⟩
        have hlt : t < xs.toArray.size := by simpa using (List.getElem?_eq_some_iff.1 hx1).1
        rw [Array.getElem?_append_left hlt]
        simpa using hx1
    · rcases henv t _ ht with h | ⟨v', h1, h2⟩
      · cases h
      · cases h1
    · rcases henv t _ ht with h | ⟨v', h1, h2⟩
      · cases h
      · cases h1
    · rcases henv t _ ht with h | ⟨v', h1, h2⟩
      · cases h
      · cases h1
  refine calls_of_wp hfn hbody (wp_mono (hwp { tmps := xs.toArray ++ Array.replicate (fn.ntmps - xs.toArray.size) Go.undef, defers := [] } hg0 rfl) ?_)
  rintro e' a' w' ⟨e, s1, ⟨rfl, Γ', L', hg', hd'⟩, hr⟩
  have fin : (readRes s1 res).bind (fun vs => some (packRes vs, (⟨s1.H, s1.next, h.floor⟩ : HS))) = some (v, h') → a'.defers = [] ∧ ∃ x, (results fn a'.tmps).run P w' = .ok x w' ∧
      ∃ x' Γ'' L'', Ending.returned x = .returned x' ∧ Rep Γ'' L'' v x' ∧ HInv Γ'' L'' h'.H h'.next w' ∧ Since Γ L h w Γ'' L'' h' w' := by
    intro hr
    rw [Option.bind_eq_some_iff] at hr
    obtain ⟨vs, hvs, hr⟩ := hr
    simp only [Option.some.injEq, Prod.mk.injEq] at hr
    obtain ⟨rfl, rfl⟩ := hr
    obtain ⟨ys, h1, h2⟩ := res_run (P := P) hg' res fn.results.toList vs ok2 hvs
    have hs' := hg'.since
    have hfl' : s1.floor = h.floor := hs'.floor
    have hsince : Since Γ L h w Γ' L' ⟨s1.H, s1.next, h.floor⟩ w' := by rw [← hfl']; exact hs'
    refine ⟨hd', ?_⟩
    have hrun : (results fn a'.tmps).run P w' = .ok (if h : ys.toArray.size = 1 then ys.toArray[0] else .tuple ys.toArray) w' := by
      have e : results fn a'.tmps = (do let vs ← fn.results.mapM (resOne a'.tmps); pure (if h : vs.size = 1 then vs[0] else .tuple vs)) := by
        unfold results
        congr 2
      rw [e, Array.mapM_eq_mapM_toList]
      simp only [Sem.run_bind, Sem.run_map, h1, Result.andThen_ok, Sem.run_pure]
    refine ⟨_, hrun, _, Γ', L', rfl, ?_, hg'.f.heap, hsince⟩
    cases vs with
    | nil =>
      have := h2.inv_nil
      subst this
      exact Rep.tup' .nil
    | cons v0 vs =>
      obtain ⟨y, ys', rfl, hy, hys⟩ := h2.inv_cons
      cases vs with
      | nil =>
        have := hys.inv_nil
        subst this
        exact hy
      | cons v1 vs =>
        obtain ⟨y1, ys1, rfl, hy1, hys1⟩ := hys.inv_cons
        simp only [packRes]
        rw [dif_neg (by simp)]
        exact Rep.tup' (.cons hy (.cons hy1 hys1))
  cases e with
  | exit i => cases hr
  | normal => exact fin hr
  | ret => exact fin hr



def clone0 : ICode := .reg false 0 [⟨some 2, none, 0, [], [], .mov (.k (.list .full []))⟩]
def clone1 : IOper := ⟨some 3, none, 0, [], [], .mov (.t 0)⟩
def clone2 : ICode := .cond (.t 4) (.seq (.reg false 0 [⟨some 2, none, 0, [], [], .mov (.k (.list .full []))⟩]) .ret) .skip
def clone3 (sz : Nat) : ICode := .seq (.reg false 1 [⟨some 5, none, 1, [], [], .buildS false sz 0 [] []⟩, ⟨some 6, none, 1, [], [], .mov (.t 0)⟩, ⟨some 7, none, 0, [], [], .append 0 sz (.t 5) (.t 6)⟩, ⟨some 2, none, 1, [], [], .mov (.t 7)⟩]) .ret

/-- Is it the nil test of a slice? -/
def nilTest (P : Program) (o : Oper) : Bool :=
  decide (o.dst = some 4) && o.guard.isNone && (match o.op with
    | .binOp .eql t (.tmp 3) (.const (.slice none 0 0)) _ => (match P.underlying t with | some (.slice _) => true | _ => false)
    | _ => false)

def okClone (P : Program) (fn : Func) (sz : Nat) : Bool :=
  (match fn.body with
  | some (.seq c0 (.seq (.seq (.region _ ops false) c2) c3)) =>
    okCode P fn.ntmps (fun _ _ _ => false) clone0 c0 && okCode P fn.ntmps (fun _ _ _ => false) clone2 c2 && okCode P fn.ntmps (fun _ _ _ => false) (clone3 sz) c3 &&
    (match ops.toList with
    | [o1, o2] => okOper P fn.ntmps 0 ops clone1 o1 && nilTest P o2
    | _ => false)
  | _ => false) && okRes P [.tmp 2] fn.results.toList && decide (8 ≤ fn.ntmps) && !(fn.name == "runtime.NumGoroutine")

def noCalls : CallF := fun _ _ _ => none
theorem noCalls_ok : TableOK P noCalls := fun f args h v h' hc => by simp [noCalls] at hc

/-- The nil test: what the slot gets is what the model finds. -/
theorem nil_sound {c : Ctx} {n na base : Nat} {Γ : Imm} {L : Locs} {s : St} {a : Act} {w : World} {o : Oper} {ops : Array Oper} {i : Nat} (hg : Good c n Γ L s a.tmps w) (h4 : 4 < n) (ho : nilTest P o = true) (hi : ops[i]? = some o)
    {p : Perm} {es : List (List V)} (hs : s.E 3 = .val (.list p es)) (hE : ∀ cs, s.E 4 ≠ .var cs) :
    ∃ b : Bool, (b = true → es = []) ∧ ∀ Q : Exit → Act → World → Prop, wpOp P ops Q i (After c n base na na L s a { s with E := upd s.E 4 (.val (.bool b)) }) a w := by
  simp only [nilTest, Bool.and_eq_true, decide_eq_true_eq] at ho
  obtain ⟨⟨hd, hgd⟩, hop⟩ := ho
  obtain ⟨x, hx, hrep⟩ := hg.f.val 3 _ hs
  obtain ⟨ad, cap, sz, gs, vals, rfl, r1, r2, r3, r4, r5, r6, r7⟩ := hrep.inv_list
  refine ⟨ad.isNone, fun hb => ?_, ?_⟩
  · cases hes : es with
    | nil => rfl
    | cons e es' =>
      obtain ⟨ad', e', _, _⟩ := r2 (by rw [hes]; simp)
      rw [e'] at hb
      cases hb
  · intro Q
    unfold wpOp
    rw [hi]
    have hgn : o.guard = none := by cases hq : o.guard with | none => rfl | some q => rw [hq] at hgd; cases hgd
    have hw : Region.wanted o (yielded ops a.tmps) = true := by simp [Region.wanted, hgn]
    simp only [hw, if_true]
    left
    have hev : a.eval (.tmp 3) = .slice ad es.length cap := by
      show a.tmps.getD 3 Go.undef = _
      simp only [Array.getD_eq_getD_getElem?, hx, Option.getD_some]
    split at hop
    · rename_i t yt hopp
      split at hop
      · rename_i e hu
        refine wp_value' (io := ⟨some 4, none, na, [], [], .mov (.t 0)⟩) hg (x := .bool ad.isNone) (v := .bool ad.isNone) (w' := w) (Γ' := Γ) ?_ ⟨Imm.le_refl _, rfl, rfl, rfl, Nat.le_refl _, fun r _ => ⟨rfl, rfl⟩, hg.f.heap.imm⟩ (.bool _) hd.symm (fun i h => by injection h with h; omega) ?_
        · simp only [execOp, hopp, hev]
          have hc : a.eval (.const (.slice none 0 0)) = .slice none 0 0 := rfl
          rw [hc]
          have heq : (eqGuard .eql t (.tmp 3) (.const (.slice none 0 0)) (.slice ad es.length cap) (.slice none 0 0)).run P w = .ok () w := by simp [eqGuard]
          have hb2 : (binOp .eql t (.slice ad es.length cap) (.slice none 0 0)).run P w = .ok (.bool ad.isNone) w := by
            have : binOp .eql t (.slice ad es.length cap) (.slice none 0 0) = (do pure (.bool (← Op.equal t (.slice ad es.length cap) (.slice none 0 0)))) := by simp [binOp]
            rw [this]
            simp [run_equal_slice_nil w t e ad es.length cap hu]
          simp [heq, hb2]
        · simp only [Go.Abs.put]
          all_goals (cases h : s.E 4 <;> simp_all)
      · cases hop
    · cases hop

/-- slices.Clone does what is said. -/
theorem clone_sound {f : Nat} {fn : Func} {sz : Nat} (hfn : P.funcs[f]? = some fn) (ok : okClone P fn sz = true) {args : List V} {h : HS} {r : V × HS} (hr : cloneR sz args h = some r) (hfl : h.floor ≤ h.next) :
    CallOK P f args h r.1 ⟨r.2.H, r.2.next, h.floor⟩ := by
  intro Γ L w xs hi hargs
  unfold okClone at ok
  simp only [Bool.and_eq_true, decide_eq_true_eq] at ok
  obtain ⟨⟨⟨ok1, ok2⟩, ok3⟩, _⟩ := ok
  split at ok1
  · rename_i c0 id ops c2 c3 hbody
    simp only [Bool.and_eq_true] at ok1
    obtain ⟨⟨⟨k0, k2⟩, k3⟩, k1⟩ := ok1
    split at k1
    · rename_i o1 o2 hops
      rw [Bool.and_eq_true] at k1
      obtain ⟨k1, kn⟩ := k1
      have hsz : ops.size = 2 := by rw [← Array.length_toList, hops]; rfl
      have hi0 : ops[0]? = some o1 := by rw [← Array.getElem?_toList, hops]; rfl
      have hi1 : ops[1]? = some o2 := by rw [← Array.getElem?_toList, hops]; rfl
      unfold cloneR at hr
      split at hr
      · rename_i p es
        have hdr : DrawOK P (fun _ => True) fn.ntmps (fun _ _ _ => false) := fun call c na id ios ops Γ L s s' a w _ _ h => by cases h
        have hn4 : 4 < fn.ntmps := by omega
        refine call_behind hfn hbody ok2 hi hargs fun a hg hd => ?_
        refine wp_seq (wp_mono (code_sound (call := noCalls) (c := ⟨Γ, L, h, w⟩) (okc := fun _ => True) noCalls_ok trivial hdr hfl 0 clone0 c0 .normal Γ L _ ⟨upd (mkEnv (argEnv 0 [.list p es])) 2 (.val (.list .full [])), h.H, h.next, h.floor⟩ a w k0 rfl hg) ?_)
        rintro e0 a0 w0 ⟨rfl, Γ0, L0, hg0, hd0⟩
        refine wp_seq (wp_seq (wp_region ?_))
        rw [hsz, show List.range 2 = [0, 1] from rfl, wpOps_cons]
        refine wpOp_mono ?_ (step_sound (c := ⟨Γ, L, h, w⟩) (call := noCalls) (na := 0) (base := h.next) (s'' := ⟨upd (upd (mkEnv (argEnv 0 [.list p es])) 2 (.val (.list .full []))) 3 (.val (.list p es)), h.H, h.next, h.floor⟩) noCalls_ok hg0 (Nat.le_refl _) hfl (Nat.le_refl _) (okOper_spec k1) (fun hu => by cases hu) rfl hi0)
        rintro a1 w1 ⟨Γ1, L1, hg1, hd1, _, _⟩
        obtain ⟨b, hb, hw⟩ := nil_sound (c := ⟨Γ, L, h, w⟩) (na := 0) (base := h.next) hg1 hn4 kn hi1 (p := p) (es := es) rfl (fun cs hcs => by cases hcs)
        rw [wpOps_cons]
        refine wpOp_mono ?_ (hw _)
        rintro a2 w2 ⟨Γ2, L2, hg2, hd2, _, _⟩
        show c2.wp P _ a2 w2
        cases b with
        | true =>
          have hes := hb rfl
          subst hes
          simp only [List.isEmpty_nil, if_true, Option.some.injEq] at hr
          subst hr
          refine wp_mono (code_sound (call := noCalls) (c := ⟨Γ, L, h, w⟩) (okc := fun _ => True) noCalls_ok trivial hdr hfl 0 clone2 c2 .ret Γ2 L2 _ ⟨upd (upd (upd (upd (mkEnv (argEnv 0 [.list p []])) 2 (.val (.list .full []))) 3 (.val (.list p []))) 4 (.val (.bool true))) 2 (.val (.list .full [])), h.H, h.next, h.floor⟩ a2 w2 k2 rfl hg2) ?_
          rintro e3 a3 w3 ⟨rfl, Γ3, L3, hg3, hd3⟩
          exact ⟨.ret, _, ⟨rfl, Γ3, L3, (hg3.skip 1).1, hd3.trans (hd2.trans (hd1.trans hd0))⟩, rfl⟩
        | false =>
          refine wp_mono (code_sound (call := noCalls) (c := ⟨Γ, L, h, w⟩) (okc := fun _ => True) noCalls_ok trivial hdr hfl 0 clone2 c2 .normal Γ2 L2 _ ⟨upd (upd (upd (mkEnv (argEnv 0 [.list p es])) 2 (.val (.list .full []))) 3 (.val (.list p es))) 4 (.val (.bool false)), h.H, h.next, h.floor⟩ a2 w2 k2 rfl hg2) ?_
          rintro e3 a3 w3 ⟨rfl, Γ3, L3, hg3, hd3⟩
          show c3.wp P _ a3 w3
          by_cases hes : es = []
          · subst hes
            simp only [List.isEmpty_nil, if_true, Option.some.injEq] at hr
            subst hr
            refine wp_mono (code_sound (call := noCalls) (c := ⟨Γ, L, h, w⟩) (okc := fun _ => True) noCalls_ok trivial hdr hfl 0 (clone3 sz) c3 .ret Γ3 L3 _
              ⟨upd (upd (upd (upd (upd (upd (upd (mkEnv (argEnv 0 [.list p []])) 2 (.val (.list .full []))) 3 (.val (.list p []))) 4 (.val (.bool false))) 5 (.val (.list .full []))) 6 (.val (.list p []))) 7 (.val (.list .full []))) 2 (.val (.list .full [])), h.H, h.next + 1, h.floor⟩ a3 w3 k3
              (by simp [clone3, exec, stepOps, stepOp, runOp, guardOk, wants, Go.Abs.put, upd, Opd.eval, mkEnv, argEnv, fillV, evalParts, elemsOf, chunks, movR]) hg3) ?_
            rintro e4 a4 w4 ⟨rfl, Γ4, L4, hg4, hd4⟩
            exact ⟨.ret, _, ⟨rfl, Γ4, L4, hg4, hd4.trans (hd3.trans (hd2.trans (hd1.trans hd0)))⟩, rfl⟩
          · have hne : es.isEmpty = false := by cases es <;> simp_all
            simp only [hne, Bool.false_eq_true, if_false] at hr
            split at hr
            · rename_i hroom
              injection hr with hr
              subst hr
              refine wp_mono (code_sound (call := noCalls) (c := ⟨Γ, L, h, w⟩) (okc := fun _ => True) noCalls_ok trivial hdr hfl 0 (clone3 sz) c3 .ret Γ3 L3 _
                ⟨upd (upd (upd (upd (upd (upd (upd (mkEnv (argEnv 0 [.list p es])) 2 (.val (.list .full []))) 3 (.val (.list p es))) 4 (.val (.bool false))) 5 (.val (.list .full []))) 6 (.val (.list p es))) 7 (.val (.list (.own h.next) es))) 2 (.val (.list (.own h.next) es)), upd h.H h.next (some (.perm sz es.length)), h.next + 1, h.floor⟩ a3 w3 k3
                (by simp [clone3, exec, stepOps, stepOp, runOp, guardOk, wants, Go.Abs.put, upd, Opd.eval, mkEnv, argEnv, fillV, evalParts, elemsOf, chunks, movR, hes, hroom, show headLen sz [] = true from rfl]) hg3) ?_
              rintro e4 a4 w4 ⟨rfl, Γ4, L4, hg4, hd4⟩
              exact ⟨.ret, _, ⟨rfl, Γ4, L4, hg4, hd4.trans (hd3.trans (hd2.trans (hd1.trans hd0)))⟩, rfl⟩
            · cases hr
      · cases hr
    · cases k1
  · cases ok1
end

/-- The natives of a seat are sound, where each function is slices.Clone. -/
theorem nat_ok {P : Program} {l : List (Nat × Nat)} (h : ∀ p ∈ l, ∃ fn, P.funcs[p.1]? = some fn ∧ okClone P fn p.2 = true) : NatOK P (natOf l) := by
  intro f args hs r hr hfl
  unfold natOf at hr
  split at hr
  · rename_i p sz hfind
    have hm := List.mem_of_find?_eq_some hfind
    have hf : p = f := by simpa using List.find?_some hfind
    subst hf
    obtain ⟨fn, h1, h2⟩ := h _ hm
    refine ⟨clone_sound h1 h2 hr hfl, fn, h1, ?_, ?_⟩
    · unfold okClone at h2
      simp only [Bool.and_eq_true] at h2
      cases hb : fn.body with
      | none => rw [hb] at h2; simp at h2
      | some c => rfl
    · unfold okClone at h2
      simp only [Bool.and_eq_true] at h2
      simpa using h2.2
  · cases hr
end Go.Abs
