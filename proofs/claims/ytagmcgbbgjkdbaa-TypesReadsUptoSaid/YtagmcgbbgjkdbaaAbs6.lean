/-
  MAPS, LENGTHS, SLICES, LITERALS.
-/
import Derived.Test.YtagmcgbbgjkdbaaAbs5
set_option linter.all false
namespace Go.Abs
open Go

def mapIdx (ks : KT) (k : V) : List (V × V) → Option (Option Nat)
  | [] => some none
  | (k', _) :: es => (keyEq ks k k').bind fun b => if b then some (some 0) else (mapIdx ks k es).bind fun r => some (r.map (· + 1))

theorem mapFind_idx (ks : KT) (k : V) : ∀ (es : List (V × V)) {r : Option V}, mapFind ks k es = some r → ∃ q, mapIdx ks k es = some q ∧ r = q.bind fun j => (es[j]?).map (·.2)
  | [], r, h => by simp only [mapFind, Option.some.injEq] at h; subst h; exact ⟨none, rfl, rfl⟩
  | (k', v) :: es, r, h => by
    simp only [mapFind, Option.bind_eq_some_iff] at h
    obtain ⟨b, hb, h⟩ := h
    cases b
    · simp only [Bool.false_eq_true, if_false] at h
      obtain ⟨q, hq, rfl⟩ := mapFind_idx ks k es h
      refine ⟨q.map (· + 1), by simp [mapIdx, hb, hq], ?_⟩
      cases q <;> simp
    · simp only [if_true, Option.some.injEq] at h
      subst h
      exact ⟨some 0, by simp [mapIdx, hb], rfl⟩

theorem mapSet_idx (ks : KT) (k v : V) : ∀ (es : List (V × V)) {es' : List (V × V)}, mapSet ks k v es = some es' → ∃ q, mapIdx ks k es = some q ∧ es' = match q with | none => es ++ [(k, v)] | some j => es.set j (k, v)
  | [], r, h => by simp only [mapSet, Option.some.injEq] at h; subst h; exact ⟨none, rfl, rfl⟩
  | (k', u) :: es, r, h => by
    simp only [mapSet, Option.bind_eq_some_iff] at h
    obtain ⟨b, hb, h⟩ := h
    cases b
    · simp only [Bool.false_eq_true, if_false, Option.bind_eq_some_iff, Option.some.injEq] at h
      obtain ⟨es', h, rfl⟩ := h
      obtain ⟨q, hq, rfl⟩ := mapSet_idx ks k v es h
      refine ⟨q.map (· + 1), by simp [mapIdx, hb, hq], ?_⟩
      cases q <;> simp
    · simp only [if_true, Option.some.injEq] at h
      subst h
      exact ⟨some 0, by simp [mapIdx, hb], rfl⟩

theorem mapDel_idx (ks : KT) (k : V) : ∀ (es : List (V × V)) {es' : List (V × V)}, mapDel ks k es = some es' → ∃ q, mapIdx ks k es = some q ∧ es' = match q with | none => es | some j => es.eraseIdx j
  | [], r, h => by simp only [mapDel, Option.some.injEq] at h; subst h; exact ⟨none, rfl, rfl⟩
  | (k', u) :: es, r, h => by
    simp only [mapDel, Option.bind_eq_some_iff] at h
    obtain ⟨b, hb, h⟩ := h
    cases b
    · simp only [Bool.false_eq_true, if_false, Option.bind_eq_some_iff, Option.some.injEq] at h
      obtain ⟨es', h, rfl⟩ := h
      obtain ⟨q, hq, rfl⟩ := mapDel_idx ks k es h
      refine ⟨q.map (· + 1), by simp [mapIdx, hb, hq], ?_⟩
      cases q <;> simp
    · simp only [if_true, Option.some.injEq] at h
      subst h
      exact ⟨some 0, by simp [mapIdx, hb], rfl⟩

section
variable {P : Program} {B n : Nat} {Γ : Imm} {L : Locs} {s : St} {a : Act} {w : World}

theorem mapIdx_get {ks : KT} {k : V} : ∀ {es : List (V × V)} {j : Nat}, mapIdx ks k es = some (some j) → ∃ e, es[j]? = some e ∧ keyEq ks k e.1 = some true
  | [], j, h => by simp [mapIdx] at h
  | (k', v) :: es, j, h => by
    simp only [mapIdx, Option.bind_eq_some_iff] at h
    obtain ⟨b, hb, h⟩ := h
    cases b
    · simp only [Bool.false_eq_true, if_false, Option.bind_eq_some_iff, Option.some.injEq] at h
      obtain ⟨q, hq, h⟩ := h
      cases q with
      | none => simp at h
      | some i =>
        simp only [Option.map_some, Option.some.injEq] at h
        subst h
        obtain ⟨e, he, hk⟩ := mapIdx_get hq
        exact ⟨e, by simpa using he, hk⟩
    · simp only [if_true, Option.some.injEq] at h
      subst h
      exact ⟨(k', v), rfl, hb⟩

/-- what the model's search comes to -/
def findOf (ms : List MapEntry) (i : Nat) : Option Nat → Option (Nat × Value)
  | none => none
  | some j => (ms[j]?).map fun e => (i + j, e.val)

theorem findAsking_run {ks : KT} {kt : TypeId} (hk : tKey P ks kt = true) {k : V} {x : Value} (hx : Rep Γ L k x) :
    ∀ (es : List (V × V)) (ms : List MapEntry) (i : Nat) (q : Option Nat), Reps Γ L (es.map (·.1)) (ms.map (·.key)) → mapIdx ks k es = some q → (Instr.findAsking kt x ms i).run P w = .ok (findOf ms i q) w
  | [], ms, i, q, hr, h => by
    have : ms = [] := by have := hr.1; simpa using this.symm
    subst this
    simp only [mapIdx, Option.some.injEq] at h
    subst h
    simp [Instr.findAsking, findOf]
  | (k', v) :: es, [], i, q, hr, h => by have := hr.1; simp at this
  | (k', v) :: es, m :: ms, i, q, hr, h => by
    obtain ⟨y, ys, e, hy, hys⟩ := Reps.inv_cons (c := k') (cs := es.map (·.1)) (by simpa using hr)
    simp only [List.map_cons, List.cons.injEq] at e
    obtain ⟨rfl, rfl⟩ := e
    simp only [mapIdx, Option.bind_eq_some_iff] at h
    obtain ⟨b, hb, h⟩ := h
    have hq := eqKey_run (P := P) (w := w) hk hx hy hb
    cases b
    · simp only [Bool.false_eq_true, if_false, Option.bind_eq_some_iff, Option.some.injEq] at h
      obtain ⟨q', hq', rfl⟩ := h
      have := findAsking_run hk hx es ms (i + 1) q' hys hq'
      simp only [Instr.findAsking, Sem.run_bind, hq, Result.andThen_ok, Bool.false_eq_true, if_false, this]
      cases q' <;> simp [findOf, Nat.add_assoc, Nat.add_comm 1]
    · simp only [if_true, Option.some.injEq] at h
      subst h
      simp [Instr.findAsking, hq, findOf]

theorem sameNow_eq {d : TypeDesc} {k : CK} {c e : V} {x y : Value} {b : Bool} (hd : match k with | .i => ∃ ik, d = .int ik | .b => d = .bool | .s => d = .string) (hx : Rep Γ L c x) (hy : Rep Γ L e y) (h : eqK k c e = some b) :
    Instr.sameNow d x y = some b := by
  cases k <;> cases c <;> cases e <;> simp only [eqK, reduceCtorEq] at h
  · obtain ⟨ik, rfl⟩ := hd
    split at h
    · rename_i hk
      subst hk
      injection h with h
      subst h
      rw [hx.inv_int, hy.inv_int]
      simp [Instr.sameNow, int_beq]
    · cases h
  · subst hd
    injection h with h
    subst h
    rw [hx.inv_bool, hy.inv_bool]
    rfl
  · subst hd
    injection h with h
    subst h
    obtain ⟨b1, e1, rfl⟩ := hx.inv_str
    obtain ⟨b2, e2, rfl⟩ := hy.inv_str
    rw [e1, e2]
    simp only [Instr.sameNow, Option.some.injEq]
    rw [beq_toListBytes, bytes_toList, bytes_toList]
    generalize b1.data.toList = p
    generalize b2.data.toList = q
    by_cases hh : p = q <;> simp [hh]

theorem findNow_eq {d : TypeDesc} {k : CK} (hd : match k with | .i => ∃ ik, d = .int ik | .b => d = .bool | .s => d = .string) {c : V} {x : Value} (hx : Rep Γ L c x) :
    ∀ (es : List (V × V)) (ms : List MapEntry) (i : Nat) (q : Option Nat), Reps Γ L (es.map (·.1)) (ms.map (·.key)) → mapIdx (.one k) c es = some q → Instr.findNow d x ms i = some (findOf ms i q)
  | [], ms, i, q, hr, h => by
    have : ms = [] := by have := hr.1; simpa using this.symm
    subst this
    simp only [mapIdx, Option.some.injEq] at h
    subst h
    rfl
  | (k', v) :: es, [], i, q, hr, h => by have := hr.1; simp at this
  | (k', v) :: es, m :: ms, i, q, hr, h => by
    obtain ⟨y, ys, e, hy, hys⟩ := Reps.inv_cons (c := k') (cs := es.map (·.1)) (by simpa using hr)
    simp only [List.map_cons, List.cons.injEq] at e
    obtain ⟨rfl, rfl⟩ := e
    simp only [mapIdx, Option.bind_eq_some_iff] at h
    obtain ⟨b, hb, h⟩ := h
    have hs := sameNow_eq hd hx hy (by simpa [keyEq] using hb)
    cases b
    · simp only [Bool.false_eq_true, if_false, Option.bind_eq_some_iff, Option.some.injEq] at h
      obtain ⟨q', hq', rfl⟩ := h
      have := findNow_eq hd hx es ms (i + 1) q' hys hq'
      simp only [Instr.findNow, hs, this]
      cases q' <;> simp [findOf, Nat.add_assoc, Nat.add_comm 1]
    · simp only [if_true, Option.some.injEq] at h
      subst h
      simp [Instr.findNow, hs, findOf]

theorem findKey_run {ks : KT} {kt : TypeId} (hk : tKey P ks kt = true) {k : V} {x : Value} (hx : Rep Γ L k x) {es : List (V × V)} {ms : List MapEntry} {q : Option Nat}
    (hr : Reps Γ L (es.map (·.1)) (ms.map (·.key))) (h : mapIdx ks k es = some q) : (Instr.findKey kt x ms).run P w = .ok (findOf ms 0 q) w := by
  have hk' := hk
  unfold tKey at hk
  split at hk
  · rename_i hu; exact MapKept.run_findKey hu (findNow_eq (k := .i) ⟨_, rfl⟩ hx es ms 0 q hr h)
  · rename_i hu; exact MapKept.run_findKey hu (findNow_eq (k := .b) rfl hx es ms 0 q hr h)
  · rename_i hu; exact MapKept.run_findKey hu (findNow_eq (k := .s) rfl hx es ms 0 q hr h)
  all_goals first
    | (cases hk; done)
    | (rename_i hu
       have ha := findAsking_run (w := w) hk' hx es ms 0 q hr h
       cases ms with
       | nil =>
         have : es = [] := by have := hr.1; simpa using this
         subst this
         simp only [mapIdx, Option.some.injEq] at h
         subst h
         simp [Instr.findKey, run_underlying hu, Instr.findNow, findOf]
       | cons m ms =>
         have hn : ∀ d, (∃ fs, d = TypeDesc.struct fs) ∨ (∃ m e, d = TypeDesc.array m e) → Instr.findNow d x (m :: ms) 0 = none := by
           intro d hd
           rcases hd with ⟨_, rfl⟩ | ⟨_, _, rfl⟩ <;> simp [Instr.findNow, Instr.sameNow]
         simp only [Instr.findKey, Sem.run_bind, run_underlying hu, Result.andThen_ok]
         rw [hn _ (by first | exact .inl ⟨_, rfl⟩ | exact .inr ⟨_, _, rfl⟩)]
         exact ha)


def ChkRuns (P : Program) (w : World) (d : Nat) : Prop :=
  ∀ (t : TypeId) (ks : List CK), cellKinds P d t = some ks →
    ∀ {Γ : Imm} {L : Locs} (e : Bool) (D : Nat) (cs : List V) (xs : List Value) (r : Bool), d ≤ D → Reps Γ L cs xs → eqCells ks cs cs = some r →
      ∃ x, shapeIs P t xs x ∧ (Instr.checkKey e D t x).run P w = .ok () w

theorem chkFields_run {d : Nat} (ih : ChkRuns P w d) (e : Bool) (D : Nat) (hD : d ≤ D) (cs : List V) (xs : List Value) (hc : Reps Γ L cs xs) :
    ∀ (fs : List Field) (acc ks : List CK) (r : Bool),
      fs.foldlM (m := Option) (init := acc) (fun acc f => if f.name ≠ "_" ∧ f.offset = acc.length then
            (cellKinds P d f.type).bind fun ks => if tSize P f.type ks.length then some (acc ++ ks) else none
          else none) = some ks →
      ∃ rest, ks = acc ++ rest ∧ (eqCells rest (cs.drop acc.length) (cs.drop acc.length) = some r →
        (forIn fs PUnit.unit (fun f (_ : PUnit) => (do
            if f.name ≠ "_" then Instr.checkKey e D f.type (← part f.type xs.toArray f.offset)
            pure (ForInStep.yield PUnit.unit) : Sem (ForInStep PUnit)))).run P w = .ok PUnit.unit w) := by
  intro fs
  induction fs with
  | nil =>
    intro acc ks r h
    simp only [List.foldlM_nil, Option.pure_def, Option.some.injEq] at h
    subst h
    exact ⟨[], by simp, fun he => by simp⟩
  | cons f fs ihf =>
    intro acc ks r h
    simp only [List.foldlM_cons, Option.bind_eq_bind] at h
    rw [Option.bind_eq_some_iff] at h
    obtain ⟨acc', h1, h2⟩ := h
    split at h1
    · rename_i hn
      rw [Option.bind_eq_some_iff] at h1
      obtain ⟨kf, hk, h1⟩ := h1
      split at h1
      · rename_i hsz
        injection h1 with h1
        subst h1
        obtain ⟨rest, rfl, _⟩ := ihf (acc ++ kf) ks r h2
        refine ⟨kf ++ rest, by simp, fun he => ?_⟩
        obtain ⟨r1, r2, e1, e2, rfl⟩ := eqCells_split kf rest he
        obtain ⟨x, hx, hq⟩ := ih f.type kf hk e D _ _ r1 hD ((hc.drop acc.length).take kf.length) e1
        have p1 := part_shape (P := P) (w := w) hsz hx
        have e3 : eqCells rest (cs.drop (acc ++ kf).length) (cs.drop (acc ++ kf).length) = some r2 := by
          simpa [List.drop_drop] using e2
        obtain ⟨rest', hr', hrun'⟩ := ihf (acc ++ kf) (acc ++ kf ++ rest) r2 h2
        have : rest' = rest := by simpa using hr'.symm
        subst this
        have ht := hrun' e3
        rw [List.forIn_cons]
        simp only [Sem.run_bind, if_pos hn.1, hn.2, p1, hq, Result.andThen_ok, Sem.run_pure]
        exact ht
      · cases h1
    · cases h1

theorem chkElems_run {d : Nat} (ih : ChkRuns P w d) (b : Bool) (D : Nat) (hD : d ≤ D) (e : TypeId) (ks : List CK) (hk : cellKinds P d e = some ks) (hsz : tSize P e ks.length = true) (cs : List V) (xs : List Value)
    (hc : Reps Γ L cs xs) :
    ∀ (m i : Nat) (r : Bool), eqCells (List.replicate m ks).flatten (cs.drop (i * ks.length)) (cs.drop (i * ks.length)) = some r →
      (forIn (List.range' i m) PUnit.unit (fun i (_ : PUnit) => (do
            Instr.checkKey b D e (← part e xs.toArray (i * (← sizeOf e)))
            pure (ForInStep.yield PUnit.unit) : Sem (ForInStep PUnit)))).run P w = .ok PUnit.unit w := by
  intro m
  induction m with
  | zero => intro i r he; simp
  | succ m ihm =>
    intro i r he
    rw [List.replicate_succ, List.flatten_cons] at he
    obtain ⟨r1, r2, e1, e2, rfl⟩ := eqCells_split ks _ he
    obtain ⟨x, hx, hq⟩ := ih e ks hk b D _ _ r1 hD ((hc.drop (i * ks.length)).take ks.length) e1
    have p1 := part_shape (P := P) (w := w) hsz hx
    rw [List.drop_drop, show i * ks.length + ks.length = (i + 1) * ks.length by rw [Nat.succ_mul]] at e2
    have ht := ihm (i + 1) r2 e2
    rw [List.range'_succ, List.forIn_cons]
    simp only [Sem.run_bind, run_size hsz, p1, hq, Result.andThen_ok, Sem.run_pure]
    exact ht

theorem chkRuns (w : World) : ∀ d, ChkRuns P w d
  | 0 => fun t ks h => by simp [cellKinds] at h
  | d + 1 => fun t ks h => by
    have ih := chkRuns w d
    unfold cellKinds at h
    split at h
    iterate 3
      · rename_i hu
        split at h
        · rename_i hs
          injection h with h; subst h
          intro Γ L e D cs xs r hD hc he
          obtain ⟨D, rfl⟩ : ∃ m, D = m + 1 := ⟨D - 1, by omega⟩
          have hl := eqCells_len he
          obtain ⟨c, rfl⟩ : ∃ c, cs = [c] := by
            match cs, hl.1 with
            | [c], _ => exact ⟨c, rfl⟩
          obtain ⟨x, rfl, hx⟩ := hc.inv_one
          refine ⟨x, .inr ⟨by simp [tAgg, hu], rfl⟩, ?_⟩
          simp only [eqCells, Option.bind_some, Bool.and_true] at he
          rw [Option.bind_eq_some_iff] at he
          obtain ⟨r', he, hr'⟩ := he
          cases c <;> simp only [eqK, reduceCtorEq] at he
          first
            | (rw [hx.inv_int]; simp [Instr.checkKey, run_underlying hu])
            | (rw [hx.inv_bool]; simp [Instr.checkKey, run_underlying hu])
            | (obtain ⟨b, eb, _⟩ := hx.inv_str; rw [eb]; simp [Instr.checkKey, run_underlying hu])
        · cases h
    · rename_i fs hu
      split at h
      · cases h
      · rename_i hheld
        rw [Option.bind_eq_some_iff] at h
        obtain ⟨ks', hf, h⟩ := h
        split at h
        · rename_i hs
          injection h with h; subst h
          intro Γ L e D cs xs r hD hc he
          obtain ⟨D, rfl⟩ : ∃ m, D = m + 1 := ⟨D - 1, by omega⟩
          refine ⟨_, .inl ⟨by simp [tAgg, hu], rfl⟩, ?_⟩
          obtain ⟨rest, hr, hrun⟩ := chkFields_run ih e D (by omega) cs xs hc fs.toList [] ks' r hf
          have hr' : ks' = rest := by simpa using hr
          subst hr'
          have := hrun (by simpa using he)
          simp only [Instr.checkKey, Sem.run_bind, run_underlying hu, Result.andThen_ok, ← Array.forIn_toList]
          simp only [Sem.run_bind] at this
          rw [this]
          rfl
        · cases h
    · rename_i len e hu
      rw [Option.bind_eq_some_iff] at h
      obtain ⟨ks', hk, h⟩ := h
      split at h
      · rename_i hs
        injection h with h; subst h
        intro Γ L b D cs xs r hD hc he
        obtain ⟨D, rfl⟩ : ∃ m, D = m + 1 := ⟨D - 1, by omega⟩
        refine ⟨_, .inl ⟨by simp [tAgg, hu], rfl⟩, ?_⟩
        have := chkElems_run ih b D (by omega) e ks' hk hs.1 cs xs hc len 0 r (by simpa using he)
        simp only [Instr.checkKey, Sem.run_bind, run_underlying hu, Result.andThen_ok]
        rw [Std.Legacy.Range.forIn_eq_forIn_range']
        simp only [Std.Legacy.Range.size, Nat.sub_zero, Nat.add_sub_cancel, Nat.div_one]
        rw [this]
        rfl
      · cases h
    · cases h


theorem checkKey_run {ks : KT} {kt : TypeId} (hk : tKey P ks kt = true) {k : V} {x : Value} (hx : Rep Γ L k x) (ho : keyOk ks k = true) (e : Bool) : (Instr.checkKey e 10000 kt x).run P w = .ok () w := by
  unfold keyOk at ho
  rw [Option.isSome_iff_exists] at ho
  obtain ⟨r, he⟩ := ho
  have one : ∀ c : CK, eqK c k k = some r → (match c with | .i => ∃ ik, P.underlying kt = some (.int ik) | .b => P.underlying kt = some .bool | .s => P.underlying kt = some .string) → ∀ d, (Instr.checkKey e (d + 1) kt x).run P w = .ok () w := by
    intro c he hu d
    cases c <;> cases k <;> simp only [eqK, reduceCtorEq] at he
    · obtain ⟨ik, hu⟩ := hu
      rw [hx.inv_int]; simp [Instr.checkKey, run_underlying hu]
    · rw [hx.inv_bool]; simp [Instr.checkKey, run_underlying hu]
    · obtain ⟨b, eb, _⟩ := hx.inv_str; rw [eb]; simp [Instr.checkKey, run_underlying hu]
  have agg : ∀ ks' as, cellKinds P 8 kt = some ks' → tAgg P kt false = false → Rep Γ L (.agg as) x → eqCells ks' as as = some r → (Instr.checkKey e 10000 kt x).run P w = .ok () w := by
    intro ks' as hk hA hx he
    obtain ⟨xs, rfl, h1⟩ := hx.inv_agg
    obtain ⟨y, hy, hq⟩ := chkRuns (P := P) w 8 kt _ hk e 10000 as xs r (by omega) h1 he
    rcases hy with ⟨_, rfl⟩ | ⟨h, _⟩
    · exact hq
    · rw [hA] at h; cases h
  unfold tKey at hk
  split at hk
  · rename_i hu; exact one .i he ⟨_, hu⟩ 9999
  · rename_i hu; exact one .b he hu 9999
  · rename_i hu; exact one .s he hu 9999
  · rename_i hu
    cases k <;> simp only [keyEq, reduceCtorEq] at he
    exact agg _ _ (of_decide_eq_true hk) (by simp [tAgg, hu]) hx he
  · rename_i hu
    cases k <;> simp only [keyEq, reduceCtorEq] at he
    exact agg _ _ (of_decide_eq_true hk) (by simp [tAgg, hu]) hx he
  · cases hk

theorem tMap_spec {ks : KT} {t e : TypeId} (h : tMap P ks t = some e) : ∃ k, P.underlying t = some (.map k e) ∧ tKey P ks k = true := by
  unfold tMap at h
  split at h
  · rename_i k e' hu
    split at h
    · rename_i hk; injection h with h; subst h; exact ⟨k, hu, hk⟩
    · cases h
  · cases h

theorem tZero1_spec {t : TypeId} {v : V} (h : tZero1 P t v = true) : ∃ i z, P.info? t = some i ∧ i.zero = some z ∧ okConst v z = true := by
  unfold tZero1 at h
  split at h
  · rename_i i hi
    split at h
    · rename_i z hz; exact ⟨i, z, hi, hz, h⟩
    · cases h
  · cases h

theorem ok_lookup (hf : FInv B n Γ L s a.tmps w) {ks : KT} {ok : Bool} {zero : V} {t e : TypeId} {x i : Opd} {X I : Operand} {m k : V} {r : Option V} (hx : okOpd x X = true) (hi : okOpd i I = true)
    (ht : tMap P ks t = some e) (hz : tZero1 P e zero = true) (hm : x.eval s.E = some m) (hk : i.eval s.E = some k) (hko : keyOk ks k = true)
    (h : lookR s.H ks m k = some r) :
    VOK P Γ L w (Instr.lookup t (a.eval X) (a.eval I) ok) (if ok then .tup [r.getD zero, .bool r.isSome] else r.getD zero) := by
  have hrm := opd_rep hf hx hm
  have hrk := opd_rep hf hi hk
  obtain ⟨kt, hu, hkt⟩ := tMap_spec ht
  obtain ⟨ie, z, hie, hiz, hzo⟩ := tZero1_spec hz
  have hzero : (zeroValue e).run P w = .ok z w := by simp [zeroValue, typeInfo, hie, hiz]
  have hzr : Rep Γ L zero z := okConst_rep _ _ hzo
  -- what is found
  have fin : ∀ (ms : List MapEntry) (es : List (V × V)), Reps Γ L (es.map (·.1)) (ms.map (·.key)) → Reps Γ L (es.map (·.2)) (ms.map (·.val)) → mapFind ks k es = some r →
      ∃ f, (Instr.findKey kt (a.eval I) ms).run P w = .ok f w ∧ ((f = none ∧ r = none) ∨ ∃ j y v, f = some (j, y) ∧ r = some v ∧ Rep Γ L v y) := by
    intro ms es h1 h2 h3
    obtain ⟨q, hq, rfl⟩ := mapFind_idx ks k es h3
    refine ⟨_, findKey_run hkt hrk h1 hq, ?_⟩
    cases q with
    | none => exact .inl ⟨rfl, rfl⟩
    | some j =>
      obtain ⟨⟨k', v'⟩, he, _⟩ := mapIdx_get hq
      obtain ⟨y, hy, hry⟩ := h2.get (j := j) (c := v') (by simp [he])
      rw [List.getElem?_map, Option.map_eq_some_iff] at hy
      obtain ⟨me, hme, rfl⟩ := hy
      exact .inr ⟨0 + j, me.val, v', by simp [findOf, hme], by simp [he], hry⟩
  have out : ∀ f : Option (Nat × Value), ((f = none ∧ r = none) ∨ ∃ j y v, f = some (j, y) ∧ r = some v ∧ Rep Γ L v y) →
      ∃ y, (do
        let (v, ok') ← match f with
          | some (_, v) => pure (v, true)
          | none => pure (← zeroValue e, false)
        pure (if ok then .tuple #[v, .bool ok'] else v) : Sem Value).run P w = .ok y w ∧ Rep Γ L (if ok then .tup [r.getD zero, .bool r.isSome] else r.getD zero) y := by
    rintro f (⟨rfl, rfl⟩ | ⟨j, y, v, rfl, rfl, hr⟩)
    · cases ok
      · exact ⟨z, by simp [hzero], by simpa using hzr⟩
      · exact ⟨.tuple #[z, .bool false], by simp [hzero], by simpa using Rep.tup' (.cons hzr (.one (.bool false)))⟩
    · cases ok
      · exact ⟨y, by simp, by simpa using hr⟩
      · exact ⟨.tuple #[y, .bool true], by simp, by simpa using Rep.tup' (.cons hr (.one (.bool true)))⟩
  cases m <;> simp only [lookR, reduceCtorEq, Option.some.injEq] at h
  · rename_i b
    split at h
    · rename_i es hb
      cases hX : a.eval X <;> rw [hX] at hrm <;> cases hrm
      rename_i r' hr'
      obtain ⟨r'', ms, clk, e1, e2, _, e3, e4⟩ := hf.heap.map _ _ hb
      rw [hr'] at e1; injection e1 with e1; subst e1
      obtain ⟨f, hf1, hf2⟩ := fin ms.toList es e3 e4 h
      obtain ⟨y, hy1, hy2⟩ := out f hf2
      refine .here hf.heap ?_ hy2
      simp only [Instr.lookup, Sem.run_bind, run_underlying hu, Result.andThen_ok, MapKept.run_getObj_map e2, Sem.run_pure, checkKey_run hkt hrk hko, hf1]
      cases f with
      | none => simpa using hy1
      | some p => obtain ⟨j, y⟩ := p; simpa using hy1
    · cases h
  · subst h
    cases hX : a.eval X <;> rw [hX] at hrm <;> cases hrm
    obtain ⟨f, hf1, hf2⟩ := fin [] [] .nil .nil rfl
    obtain ⟨y, hy1, hy2⟩ := out f hf2
    refine .here hf.heap ?_ hy2
    simp only [Instr.lookup, Sem.run_bind, run_underlying hu, Result.andThen_ok, Sem.run_pure, checkKey_run hkt hrk hko, hf1]
    cases f with
    | none => simpa using hy1
    | some p => obtain ⟨j, y⟩ := p; simpa using hy1

theorem ok_len (hf : FInv B n Γ L s a.tmps w) {t rt : TypeId} {k : LK} {x : Opd} {X : Operand} {v u : V} (hx : okOpd x X = true)
    (ht : lenT P k t = true) (hv : x.eval s.E = some v)
    (h : lenR s.H k v = some u) : VOK P Γ L w (Builtin.len_ #[t] rt #[a.eval X]) u := by
  have hr := opd_rep hf hx hv
  unfold lenT at ht
  cases k <;> cases hu : P.underlying t <;> rw [hu] at ht <;> try (cases ht; done)
  all_goals
    rename_i d
    cases d <;> try (cases ht; done)
    cases v <;> simp only [lenR, reduceCtorEq, Option.some.injEq] at h
  · subst h
    obtain ⟨b, e, hb⟩ := hr.inv_str
    refine .here hf.heap (x := .int .i64 b.size) ?_ ?_
    · rw [e]; simp [Builtin.len_, run_underlying hu, goInt]
    · subst hb
      rw [show (b.size : Int) = (b.data.toList.length : Int) by simp]
      exact .int _ _
  · subst h
    cases hX : a.eval X <;> rw [hX] at hr <;> cases hr
    exact .here hf.heap (by simp [Builtin.len_, run_underlying hu, goInt]) (.int _ _)
  · subst h
    cases hX : a.eval X <;> rw [hX] at hr <;> cases hr
    exact .here hf.heap (by simp [Builtin.len_, run_underlying hu, goInt]) (.int _ _)
  · split at h
    · rename_i es hb
      injection h with h
      subst h
      cases hX : a.eval X <;> rw [hX] at hr <;> cases hr
      rename_i r' hr'
      obtain ⟨r'', ms, clk, e1, e2, _, e3, e4⟩ := hf.heap.map _ _ hb
      rw [hr'] at e1; injection e1 with e1; subst e1
      have hl : es.length = ms.size := by have := e3.1; simpa using this
      refine .here hf.heap (x := .int .i64 ms.size) (by simp [Builtin.len_, run_underlying hu, goInt, MapKept.run_getObj_map e2]) ?_
      rw [hl]
      exact .int _ _
    · cases h
  · subst h
    cases hX : a.eval X <;> rw [hX] at hr <;> cases hr
    exact .here hf.heap (by simp [Builtin.len_, run_underlying hu, goInt]) (.int _ _)

/-- bounds of slice expressions -/
theorem bnd_spec (hf : FInv B n Γ L s a.tmps w) {x : Option Opd} {X : Option Operand} {dflt m l : Nat} (ok : okOpt x X = true) (h : bnd? s.E x dflt m = some l) :
    l ≤ m ∧ ((X = none ∧ l = dflt) ∨ ∃ Y k, X = some Y ∧ a.eval Y = .int k (l : Int)) := by
  cases x with
  | none =>
    cases X <;> simp only [okOpt, Bool.false_eq_true] at ok
    simp only [bnd?] at h
    split at h
    · injection h with h; subst h; exact ⟨by assumption, .inl ⟨rfl, rfl⟩⟩
    · cases h
  | some o =>
    cases X <;> simp only [okOpt, Bool.false_eq_true] at ok
    rename_i Y
    simp only [bnd?, Option.bind_eq_some_iff] at h
    obtain ⟨v, hv, h⟩ := h
    split at h
    · split at h
      · rename_i hc
        injection h with h
        subst h
        have := (opd_rep hf ok hv).inv_int
        exact ⟨by omega, .inr ⟨Y, _, rfl, by rw [this, Int.toNat_of_nonneg hc.1]⟩⟩
      · cases h
    · cases h

theorem run_bound {k : IntKind} {l m : Nat} (h : l ≤ m) (c : BoundsCode) : (Instr.sliceBound (.int k (l : Int)) m c).run P w = .ok l w := by
  have : (0 : Int) ≤ (l : Int) ∧ (l : Int) ≤ (m : Int) := by omega
  simp [Instr.sliceBound, asIntOf, h]

/-- 's[lo:hi]' of a slice, a string, an array: the bounds -/
theorem run_bounds (hf : FInv B n Γ L s a.tmps w) {lo hi : Option Opd} {Lo Hi : Option Operand} {len cap h l : Nat} (isS : Bool) (okl : okOpt lo Lo = true) (okh : okOpt hi Hi = true) (hcap : len ≤ cap)
    (hh : bnd? s.E hi len len = some h) (hl : bnd? s.E lo 0 h = some l) :
    (Instr.sliceBounds isS len cap (Lo.map a.eval) (Hi.map a.eval) none).run P w = .ok (l, h, cap) w ∧ l ≤ h ∧ h ≤ len := by
  obtain ⟨h1, h2⟩ := bnd_spec hf okh hh
  obtain ⟨l1, l2⟩ := bnd_spec hf okl hl
  refine ⟨?_, l1, h1⟩
  rcases h2 with ⟨rfl, rfl⟩ | ⟨Y, k, rfl, e⟩
  · rcases l2 with ⟨rfl, rfl⟩ | ⟨Z, k', rfl, e'⟩
    · simp [Instr.sliceBounds]
    · simp [Instr.sliceBounds, e', run_bound l1]
  · rcases l2 with ⟨rfl, rfl⟩ | ⟨Z, k', rfl, e'⟩
    · simp [Instr.sliceBounds, e, run_bound (show h ≤ cap by omega)]
    · simp [Instr.sliceBounds, e, e', run_bound (show h ≤ cap by omega), run_bound l1]

theorem run_bounds3 (hf : FInv B n Γ L s a.tmps w) {lo hi : Option Opd} {mx : Opd} {Lo Hi : Option Operand} {Mx : Operand} {len cap m h l : Nat} (okl : okOpt lo Lo = true) (okh : okOpt hi Hi = true) (okm : okOpd mx Mx = true) (hcap : len ≤ cap)
    (hi' : Hi.isSome = true) (hm : bnd? s.E (some mx) 0 len = some m) (hh : bnd? s.E hi len m = some h) (hl : bnd? s.E lo 0 h = some l) :
    (Instr.sliceBounds true len cap (Lo.map a.eval) (Hi.map a.eval) (some (a.eval Mx))).run P w = .ok (l, h, m) w ∧ l ≤ h ∧ h ≤ m ∧ m ≤ len := by
  obtain ⟨m1, m2⟩ := bnd_spec hf (X := some Mx) (by simpa [okOpt] using okm) hm
  obtain ⟨h1, h2⟩ := bnd_spec hf okh hh
  obtain ⟨l1, l2⟩ := bnd_spec hf okl hl
  refine ⟨?_, l1, h1, m1⟩
  rcases m2 with ⟨h0, _⟩ | ⟨W, km, hW, em⟩
  · cases h0
  · injection hW with hW
    subst hW
    rcases h2 with ⟨rfl, rfl⟩ | ⟨Y, k, rfl, e⟩
    · simp at hi'
    · rcases l2 with ⟨rfl, rfl⟩ | ⟨Z, k', rfl, e'⟩
      · simp [Instr.sliceBounds, em, e, run_bound (show m ≤ cap by omega), run_bound h1]
      · simp [Instr.sliceBounds, em, e, e', run_bound (show m ≤ cap by omega), run_bound h1, run_bound l1]

theorem ok_sliceStr (hf : FInv B n Γ L s a.tmps w) {t : TypeId} {x : Opd} {X : Operand} {lo hi : Option Opd} {Lo Hi : Option Operand} {b : List UInt8} {h l : Nat} (ht : P.underlying t = some .string)
    (hx : okOpd x X = true) (okl : okOpt lo Lo = true) (okh : okOpt hi Hi = true) (hv : x.eval s.E = some (.str b)) (hh : bnd? s.E hi b.length b.length = some h) (hl : bnd? s.E lo 0 h = some l) :
    VOK P Γ L w (Instr.sliceAt t (a.eval X) (Lo.map a.eval) (Hi.map a.eval) none) (.str ((b.take h).drop l)) := by
  obtain ⟨ba, e, rfl⟩ := (opd_rep hf hx hv).inv_str
  rw [e]
  have hs : ba.data.toList.length = ba.size := by simp
  rw [hs] at hh
  obtain ⟨hrun, h1, h2⟩ := run_bounds (P := P) hf false okl okh (Nat.le_refl _) hh hl
  refine .here hf.heap (x := .string (ba.extract l h)) ?_ (.str _ _ ?_)
  · simp [Instr.sliceAt, Instr.slice, run_underlying ht, hrun]
  · rw [ByteArray.data_extract]
    rw [Array.toList_extract, List.extract_eq_take_drop, List.take_drop]
    congr 2
    omega

end
end Go.Abs
