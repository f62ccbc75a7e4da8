/-
  MORE OPERATIONS THAT MAKE A VALUE: comparisons, slices, literals.
-/
import Derived.Test.YtagmcgbbgjkdbaaAbs4
import Derived.Laws.StructEq
import Derived.MapKept
set_option linter.all false
namespace Go.Abs
open Go

section
variable {P : Program} {B n : Nat} {Γ : Imm} {L : Locs} {s : St} {a : Act} {w : World}

theorem int_beq (a b : Int) : (a == b) = decide (a = b) := by
  by_cases h : a = b <;> simp [h]

theorem run_intCmp {op : BinOp} {x y : Int} {r : Bool} (h : cmpInt op x y = some r) : (Op.intCmp op x y).run P w = .ok (.bool r) w := by
  cases op <;> simp only [cmpInt, Option.some.injEq, reduceCtorEq] at h <;> subst h <;> simp [Op.intCmp, int_beq, bne]

theorem bytes_toList (b : ByteArray) : b.toList = b.data.toList := ByteArray.toList_eq b

theorem ok_bin (hf : FInv B n Γ L s a.tmps w) {op : BinOp} {t : TypeId} {x y X' Y' : Opd} {X Y : Operand} {v u r : V} (hx : okOpd x X = true) (hy : okOpd y Y = true)
    (hv : x.eval s.E = some v) (hu : y.eval s.E = some u) (h : binV op v u = some r) :
    VOK P Γ L w (do eqGuard op t X Y (a.eval X) (a.eval Y); binOp op t (a.eval X) (a.eval Y)) r := by
  have hrx := opd_rep hf hx hv
  have hry := opd_rep hf hy hu
  cases v <;> cases u <;> simp only [binV, reduceCtorEq] at h
  case int.int k m k' m' =>
    rw [hrx.inv_int, hry.inv_int]
    have hg : (eqGuard op t X Y (.int k m) (.int k' m')).run P w = .ok () w := by cases op <;> simp [eqGuard]
    cases op <;> simp only [] at h
    case shl =>
      split at h <;> simp only [reduceCtorEq, Option.some.injEq] at h
      rename_i hb
      subst h
      exact .here hf.heap (by simp [hg, binOp, Op.shift, hb]) (.int _ _)
    case shr =>
      split at h <;> simp only [reduceCtorEq, Option.some.injEq] at h
      rename_i hb
      subst h
      exact .here hf.heap (by simp [hg, binOp, Op.shift, hb]) (.int _ _)
    all_goals
      have hk : k = k' := by
        split at h
        · assumption
        · cases h
      subst hk
      rw [if_pos rfl] at h
      simp only [cmpInt, arith] at h
      first
        | (simp only [Option.some.injEq] at h
           subst h
           exact .here hf.heap (by simp [hg, binOp, Op.intCmp, int_beq, bne]) (.bool _))
        | (simp only [Option.bind_some, Option.some.injEq] at h
           subst h
           exact .here hf.heap (by simp [hg, binOp, Op.intArith, Op.intBits]) (.int _ _))
        | (by_cases hb : m' = 0
           · simp [hb] at h
           · rw [if_neg hb] at h
             simp only [Option.bind_some, Option.some.injEq] at h
             subst h
             exact .here hf.heap (by simp [hg, binOp, Op.intDiv, hb]) (.int _ _))
        | (simp at h; done)
  case str.str p q =>
    obtain ⟨bx, ex, rfl⟩ := hrx.inv_str
    obtain ⟨bY, ey, rfl⟩ := hry.inv_str
    rw [ex, ey]
    have hg : (eqGuard op t X Y (.string bx) (.string bY)).run P w = .ok () w := by cases op <;> simp [eqGuard]
    have hlist : ∀ p q : List UInt8, (p == q) = decide (p = q) := fun p q => by by_cases h : p = q <;> simp [h]
    cases op <;> simp only [cmpStr, reduceCtorEq, Option.some.injEq] at h
    case add =>
      split at h <;> simp only [reduceCtorEq, Option.some.injEq] at h
      rename_i hb
      subst h
      refine .here hf.heap (x := .string (bx ++ bY)) ?_ (.str _ _ ?_)
      · have hlt : ¬ (((bx.size + bY.size : Nat) : Int) > IntKind.i64.max) := by
          have : bx.size + bY.size ≤ 4294967296 := by simpa using hb
          simp only [IntKind.max, IntKind.signed, IntKind.bits]
          omega
        simp only [Sem.run_bind, hg, Result.andThen_ok, binOp, Op.stringOp, if_neg hlt, Sem.run_pure]
      · simp
    all_goals
      subst h
      refine .here hf.heap ?_ (.bool _)
      simp [hg, binOp, Op.stringOp, bytes_toList, hlist]


theorem eqCells_len : ∀ {ks : List CK} {cs ds : List V} {r : Bool}, eqCells ks cs ds = some r → cs.length = ks.length ∧ ds.length = ks.length
  | [], [], [], _, _ => ⟨rfl, rfl⟩
  | k :: ks, c :: cs, d :: ds, r, h => by
    simp only [eqCells, Option.bind_eq_some_iff] at h
    obtain ⟨_, _, _, h2, _⟩ := h
    have := eqCells_len h2
    simp [this.1, this.2]
  | [], _ :: _, _, _, h | [], [], _ :: _, _, h | _ :: _, [], _, _, h | _ :: _, _ :: _, [], _, h => by simp [eqCells] at h

theorem eqCells_split : ∀ (k1 k2 : List CK) {cs ds : List V} {r : Bool}, eqCells (k1 ++ k2) cs ds = some r →
    ∃ r1 r2, eqCells k1 (cs.take k1.length) (ds.take k1.length) = some r1 ∧ eqCells k2 (cs.drop k1.length) (ds.drop k1.length) = some r2 ∧ r = (r1 && r2)
  | [], k2, cs, ds, r, h => ⟨true, r, by simp [eqCells], by simpa using h, by simp⟩
  | k :: k1, k2, [], ds, r, h => by simp [eqCells] at h
  | k :: k1, k2, _ :: _, [], r, h => by simp [eqCells] at h
  | k :: k1, k2, c :: cs, d :: ds, r, h => by
    simp only [List.cons_append, eqCells, Option.bind_eq_some_iff, Option.some.injEq] at h
    obtain ⟨x, hx, y, hy, rfl⟩ := h
    obtain ⟨r1, r2, h1, h2, rfl⟩ := eqCells_split k1 k2 hy
    exact ⟨x && r1, r2, by simp [eqCells, hx, h1], by simpa using h2, by rw [Bool.and_assoc]⟩

/-- a value of a type, out of its cells -/
def shapeIs (P : Program) (t : TypeId) (xs : List Value) (x : Value) : Prop :=
  (tAgg P t true = true ∧ x = .agg xs.toArray) ∨ (tAgg P t false = true ∧ xs = [x])

theorem part_shape {t : TypeId} {xs : List Value} {off k : Nat} {x : Value} (hk : tSize P t k = true) (hs : shapeIs P t ((xs.drop off).take k) x) : (part t xs.toArray off).run P w = .ok x w := by
  rcases hs with ⟨ha, rfl⟩ | ⟨ha, hx⟩
  · simp only [part, Sem.run_bind, run_isAgg' ha, Result.andThen_ok, if_true, run_size hk, Sem.run_pure, Result.ok.injEq, Value.agg.injEq, and_true]
    apply Array.ext'
    simp [List.extract_eq_take_drop, List.take_drop]
  · have h0 : ((xs.drop off).take k)[0]? = some x := by rw [hx]; rfl
    rw [List.getElem?_take] at h0
    split at h0
    · rw [List.getElem?_drop, Nat.add_zero] at h0
      simp [part, run_isAgg' ha, h0]
    · cases h0

theorem eqK_run {k : CK} {c d : V} {x y : Value} {r : Bool} {t : TypeId} {D : Nat} (hc : Rep Γ L c x) (hd : Rep Γ L d y) (h : eqK k c d = some r)
    (ht : match k with | .i => ∃ ik, P.underlying t = some (.int ik) | .b => P.underlying t = some .bool | .s => P.underlying t = some .string) :
    (Op.equalIn (D + 1) t x y).run P w = .ok r w := by
  cases k <;> cases c <;> cases d <;> simp only [eqK, reduceCtorEq] at h
  · obtain ⟨ik, ht⟩ := ht
    split at h
    · rename_i hk
      subst hk
      injection h with h
      subst h
      rw [hc.inv_int, hd.inv_int]
      rw [run_equalIn_int w D t _ ik _ _ ht, int_beq]
    · cases h
  · injection h with h
    subst h
    rw [hc.inv_bool, hd.inv_bool, run_equalIn_bool' w D t _ _ ht]
    congr 1
  · injection h with h
    subst h
    obtain ⟨b1, e1, rfl⟩ := hc.inv_str
    obtain ⟨b2, e2, rfl⟩ := hd.inv_str
    rw [e1, e2, run_equalIn_string w D t _ _ ht, bytes_toList, bytes_toList]
    congr 1
    generalize b1.data.toList = p
    generalize b2.data.toList = q
    by_cases hh : p = q <;> simp [hh]

def EqRuns (P : Program) (w : World) (d : Nat) : Prop :=
  ∀ (t : TypeId) (ks : List CK), cellKinds P d t = some ks → tSize P t ks.length = true ∧
    ∀ {Γ : Imm} {L : Locs} (D : Nat) (cs ds : List V) (xs ys : List Value) (r : Bool), d ≤ D → Reps Γ L cs xs → Reps Γ L ds ys → eqCells ks cs ds = some r →
      ∃ x y, shapeIs P t xs x ∧ shapeIs P t ys y ∧ (Op.equalIn D t x y).run P w = .ok r w

theorem eqFields_run {d : Nat} (ih : EqRuns P w d) (D : Nat) (hD : d ≤ D) (cs ds : List V) (xs ys : List Value) (hc : Reps Γ L cs xs) (hd : Reps Γ L ds ys) :
    ∀ (fs : List Field) (acc ks : List CK) (r : Bool),
      fs.foldlM (m := Option) (init := acc) (fun acc f => if f.name ≠ "_" ∧ f.offset = acc.length then
            (cellKinds P d f.type).bind fun ks => if tSize P f.type ks.length then some (acc ++ ks) else none
          else none) = some ks →
      ∃ rest, ks = acc ++ rest ∧ (eqCells rest (cs.drop acc.length) (ds.drop acc.length) = some r → (Op.eqFields D xs.toArray ys.toArray fs).run P w = .ok r w) := by
  intro fs
  induction fs with
  | nil =>
    intro acc ks r h
    simp only [List.foldlM_nil, Option.pure_def, Option.some.injEq] at h
    subst h
    refine ⟨[], by simp, fun he => ?_⟩
    have : r = true := by
      generalize cs.drop acc.length = p at he
      generalize ds.drop acc.length = q at he
      cases p <;> cases q <;> simp [eqCells] at he
      exact he
    subst this
    simp [Op.eqFields]
  | cons f fs ihf =>
    intro acc ks r h
    simp only [List.foldlM_cons, Option.bind_eq_bind] at h
    rw [Option.bind_eq_some_iff] at h
    obtain ⟨acc', h1, h2⟩ := h
    split at h1
    · rename_i hn
      rw [Option.bind_eq_some_iff] at h1
      obtain ⟨kf, hk, h1⟩ := h1
      split at h1
      · rename_i hsz
        injection h1 with h1
        subst h1
        obtain ⟨rest, rfl, hrest⟩ := ihf (acc ++ kf) ks r h2
        refine ⟨kf ++ rest, by simp, fun he => ?_⟩
        obtain ⟨r1, r2, e1, e2, rfl⟩ := eqCells_split kf rest he
        obtain ⟨_, hrun⟩ := ih f.type kf hk
        obtain ⟨x, y, hx, hy, hq⟩ := hrun D _ _ _ _ r1 hD ((hc.drop acc.length).take kf.length) ((hd.drop acc.length).take kf.length) e1
        have p1 := part_shape (P := P) (w := w) hsz hx
        have p2 := part_shape (P := P) (w := w) hsz hy
        rw [Op.eqFields, if_pos hn.1, hn.2]
        simp only [Sem.run_bind, p1, p2, hq, Result.andThen_ok]
        cases r1
        · simp
        · have e3 : eqCells rest (cs.drop (acc ++ kf).length) (ds.drop (acc ++ kf).length) = some (true && r2) := by
            simpa [List.drop_drop] using e2
          simp only [Bool.not_true, Bool.false_eq_true, if_false]
          have := ihf (acc ++ kf) (acc ++ kf ++ rest) (true && r2) h2
          obtain ⟨rest', hr', hrun'⟩ := this
          have : rest' = rest := by simpa using hr'.symm
          subst this
          exact hrun' e3
      · cases h1
    · cases h1


/-- elements of an array, from i on -/
def eqElems (D : Nat) (e : TypeId) (sz : Nat) (xs ys : Array Value) : List Nat → Sem Bool
  | [] => pure true
  | i :: is => do
    let r ← Op.equalIn D e (← part e xs (i * sz)) (← part e ys (i * sz))
    if (!r) = true then pure false else eqElems D e sz xs ys is

theorem run_equalIn_array (D : Nat) (t e : TypeId) (len sz : Nat) (xs ys : Array Value) (ht : P.underlying t = some (.array len e)) (hs : tSize P e sz = true) :
    (Op.equalIn (D + 1) t (.agg xs) (.agg ys)).run P w = (eqElems D e sz xs ys (List.range' 0 len)).run P w := by
  simp only [Op.equalIn, Sem.run_bind, run_underlying ht, Result.andThen_ok, run_size hs]
  rw [Std.Legacy.Range.forIn_eq_forIn_range']
  simp only [Std.Legacy.Range.size, Nat.sub_zero, Nat.add_sub_cancel, Nat.div_one]
  generalize List.range' 0 len 1 = is
  induction is generalizing w with
  | nil => simp [eqElems]
  | cons i is ih =>
    simp only [List.forIn_cons, eqElems, Sem.run_bind, Sem.run_ite]
    generalize (part e xs (i * sz)).run P w = r1
    cases r1 with
    | ok a w1 =>
      simp only [Result.andThen_ok]
      generalize (part e ys (i * sz)).run P w1 = r2
      cases r2 with
      | ok b w2 =>
        simp only [Result.andThen_ok]
        generalize (Op.equalIn D e a b).run P w2 = r3
        cases r3 with
        | ok r w3 =>
          cases r
          · simp only [Result.andThen_ok, Bool.not_false, if_true, Sem.run_pure]
          · simp only [Result.andThen_ok, Bool.not_true, Bool.false_eq_true, if_false, Sem.run_pure]
            exact ih
        | halt x w3 => simp [Result.andThen]
      | halt x w2 => simp [Result.andThen]
    | halt x w1 => simp [Result.andThen]


theorem eqElems_run {d : Nat} (ih : EqRuns P w d) (D : Nat) (hD : d ≤ D) (e : TypeId) (ks : List CK) (hk : cellKinds P d e = some ks) (hsz : tSize P e ks.length = true) (cs ds : List V) (xs ys : List Value)
    (hc : Reps Γ L cs xs) (hd : Reps Γ L ds ys) :
    ∀ (m i : Nat) (r : Bool), eqCells (List.replicate m ks).flatten (cs.drop (i * ks.length)) (ds.drop (i * ks.length)) = some r →
      (eqElems D e ks.length xs.toArray ys.toArray (List.range' i m)).run P w = .ok r w := by
  intro m
  induction m with
  | zero =>
    intro i r he
    have : r = true := by
      generalize cs.drop (i * ks.length) = p at he
      generalize ds.drop (i * ks.length) = q at he
      cases p <;> cases q <;> simp [eqCells] at he
      exact he
    subst this
    simp [eqElems]
  | succ m ihm =>
    intro i r he
    rw [List.replicate_succ, List.flatten_cons] at he
    obtain ⟨r1, r2, e1, e2, rfl⟩ := eqCells_split ks _ he
    obtain ⟨x, y, hx, hy, hq⟩ := (ih e ks hk).2 D _ _ _ _ r1 hD ((hc.drop (i * ks.length)).take ks.length) ((hd.drop (i * ks.length)).take ks.length) e1
    have p1 := part_shape (P := P) (w := w) hsz hx
    have p2 := part_shape (P := P) (w := w) hsz hy
    rw [List.range'_succ, eqElems]
    simp only [Sem.run_bind, p1, p2, hq, Result.andThen_ok]
    cases r1
    · simp
    · simp only [Bool.not_true, Bool.false_eq_true, if_false, Bool.true_and]
      rw [List.drop_drop, List.drop_drop, show i * ks.length + ks.length = (i + 1) * ks.length by rw [Nat.succ_mul]] at e2
      exact ihm (i + 1) r2 e2

theorem eqRuns (w : World) : ∀ d, EqRuns P w d
  | 0 => fun t ks h => by simp [cellKinds] at h
  | d + 1 => fun t ks h => by
    have ih := eqRuns w d
    unfold cellKinds at h
    split at h
    · rename_i ik hu
      split at h
      · rename_i hs
        injection h with h; subst h
        refine ⟨hs, fun D cs ds xs ys r hD hc hd he => ?_⟩
        obtain ⟨D, rfl⟩ : ∃ m, D = m + 1 := ⟨D - 1, by omega⟩
        have hl := eqCells_len he
        obtain ⟨c, rfl⟩ : ∃ c, cs = [c] := by
          match cs, hl.1 with
          | [c], _ => exact ⟨c, rfl⟩
        obtain ⟨e, rfl⟩ : ∃ c, ds = [c] := by
          match ds, hl.2 with
          | [c], _ => exact ⟨c, rfl⟩
        obtain ⟨x, rfl, hx⟩ := hc.inv_one
        obtain ⟨y, rfl, hy⟩ := hd.inv_one
        have hA : tAgg P t false = true := by simp [tAgg, hu]
        refine ⟨x, y, .inr ⟨hA, rfl⟩, .inr ⟨hA, rfl⟩, ?_⟩
        simp only [eqCells, Option.bind_some, Bool.and_true] at he
        rw [Option.bind_eq_some_iff] at he
        obtain ⟨r', he, hr'⟩ := he
        injection hr' with hr'; subst hr'
        exact eqK_run hx hy he ⟨ik, hu⟩
      · cases h
    · rename_i hu
      split at h
      · rename_i hs
        injection h with h; subst h
        refine ⟨hs, fun D cs ds xs ys r hD hc hd he => ?_⟩
        obtain ⟨D, rfl⟩ : ∃ m, D = m + 1 := ⟨D - 1, by omega⟩
        have hl := eqCells_len he
        obtain ⟨c, rfl⟩ : ∃ c, cs = [c] := by
          match cs, hl.1 with
          | [c], _ => exact ⟨c, rfl⟩
        obtain ⟨e, rfl⟩ : ∃ c, ds = [c] := by
          match ds, hl.2 with
          | [c], _ => exact ⟨c, rfl⟩
        obtain ⟨x, rfl, hx⟩ := hc.inv_one
        obtain ⟨y, rfl, hy⟩ := hd.inv_one
        have hA : tAgg P t false = true := by simp [tAgg, hu]
        refine ⟨x, y, .inr ⟨hA, rfl⟩, .inr ⟨hA, rfl⟩, ?_⟩
        simp only [eqCells, Option.bind_some, Bool.and_true] at he
        rw [Option.bind_eq_some_iff] at he
        obtain ⟨r', he, hr'⟩ := he
        injection hr' with hr'; subst hr'
        exact eqK_run hx hy he hu
      · cases h
    · rename_i hu
      split at h
      · rename_i hs
        injection h with h; subst h
        refine ⟨hs, fun D cs ds xs ys r hD hc hd he => ?_⟩
        obtain ⟨D, rfl⟩ : ∃ m, D = m + 1 := ⟨D - 1, by omega⟩
        have hl := eqCells_len he
        obtain ⟨c, rfl⟩ : ∃ c, cs = [c] := by
          match cs, hl.1 with
          | [c], _ => exact ⟨c, rfl⟩
        obtain ⟨e, rfl⟩ : ∃ c, ds = [c] := by
          match ds, hl.2 with
          | [c], _ => exact ⟨c, rfl⟩
        obtain ⟨x, rfl, hx⟩ := hc.inv_one
        obtain ⟨y, rfl, hy⟩ := hd.inv_one
        have hA : tAgg P t false = true := by simp [tAgg, hu]
        refine ⟨x, y, .inr ⟨hA, rfl⟩, .inr ⟨hA, rfl⟩, ?_⟩
        simp only [eqCells, Option.bind_some, Bool.and_true] at he
        rw [Option.bind_eq_some_iff] at he
        obtain ⟨r', he, hr'⟩ := he
        injection hr' with hr'; subst hr'
        exact eqK_run hx hy he hu
      · cases h
    · rename_i fs hu
      split at h
      · cases h
      · rename_i hheld
        rw [Option.bind_eq_some_iff] at h
        obtain ⟨ks', hf, h⟩ := h
        split at h
        · rename_i hs
          injection h with h; subst h
          refine ⟨hs, fun D cs ds xs ys r hD hc hd he => ?_⟩
          obtain ⟨D, rfl⟩ : ∃ m, D = m + 1 := ⟨D - 1, by omega⟩
          have hA : tAgg P t true = true := by simp [tAgg, hu]
          refine ⟨_, _, .inl ⟨hA, rfl⟩, .inl ⟨hA, rfl⟩, ?_⟩
          have hfo : P.fieldsOf t = fs := by simp [Program.fieldsOf, hu]
          rw [run_equalIn_struct w D t _ _ (by rw [hfo]; exact hu) (by simpa using hheld), hfo]
          obtain ⟨rest, hr, hrun⟩ := eqFields_run ih D (by omega) cs ds xs ys hc hd fs.toList [] ks' r hf
          have hr' : ks' = rest := by simpa using hr
          subst hr'
          exact hrun (by simpa using he)
        · cases h
    · rename_i len e hu
      rw [Option.bind_eq_some_iff] at h
      obtain ⟨ks', hk, h⟩ := h
      split at h
      · rename_i hs
        injection h with h; subst h
        have hlen : (List.replicate len ks').flatten.length = len * ks'.length := by simp
        refine ⟨by rw [hlen]; exact hs.2, fun D cs ds xs ys r hD hc hd he => ?_⟩
        obtain ⟨D, rfl⟩ : ∃ m, D = m + 1 := ⟨D - 1, by omega⟩
        have hA : tAgg P t true = true := by simp [tAgg, hu]
        refine ⟨_, _, .inl ⟨hA, rfl⟩, .inl ⟨hA, rfl⟩, ?_⟩
        rw [run_equalIn_array D t e len ks'.length _ _ hu hs.1]
        exact eqElems_run ih D (by omega) e ks' hk hs.1 cs ds xs ys hc hd len 0 r (by simpa using he)
      · cases h
    · cases h

/-- '==' on structs and arrays of plain cells -/
theorem eqAgg_run {t : TypeId} {ks : List CK} (hk : cellKinds P 8 t = some ks) (hA : tAgg P t true = true) {cs ds : List V} {xs ys : List Value} {r : Bool} (hc : Reps Γ L cs xs) (hd : Reps Γ L ds ys) (he : eqCells ks cs ds = some r) :
    (Op.equal t (.agg xs.toArray) (.agg ys.toArray)).run P w = .ok r w := by
  obtain ⟨x, y, hx, hy, hq⟩ := (eqRuns (P := P) w 8 t ks hk).2 10000 cs ds xs ys r (by omega) hc hd he
  have hf : tAgg P t false = false := by
    unfold tAgg at hA ⊢
    split at hA <;> simp_all
  rcases hx with ⟨_, rfl⟩ | ⟨h, _⟩
  · rcases hy with ⟨_, rfl⟩ | ⟨h, _⟩
    · exact hq
    · rw [hf] at h; cases h
  · rw [hf] at h; cases h

/-- '==' on a key of a map -/
theorem eqKey_run {t : TypeId} {ks : KT} (hk : tKey P ks t = true) {c d : V} {x y : Value} {r : Bool} (hc : Rep Γ L c x) (hd : Rep Γ L d y) (he : keyEq ks c d = some r) :
    (Op.equal t x y).run P w = .ok r w := by
  unfold tKey at hk
  split at hk
  · rename_i hu; exact eqK_run hc hd he ⟨_, hu⟩
  · rename_i hu; exact eqK_run hc hd he hu
  · rename_i hu; exact eqK_run hc hd he hu
  · rename_i ks fs hu
    simp only [keyEq] at he
    split at he
    · obtain ⟨xs, rfl, h1⟩ := hc.inv_agg
      obtain ⟨ys, rfl, h2⟩ := hd.inv_agg
      exact eqAgg_run (of_decide_eq_true hk) (by simp [tAgg, hu]) h1 h2 he
    · cases he
  · rename_i ks m e hu
    simp only [keyEq] at he
    split at he
    · obtain ⟨xs, rfl, h1⟩ := hc.inv_agg
      obtain ⟨ys, rfl, h2⟩ := hd.inv_agg
      exact eqAgg_run (of_decide_eq_true hk) (by simp [tAgg, hu]) h1 h2 he
    · cases he
  · cases hk

theorem run_equal_ptr {e : TypeId} {t : TypeId} {ie : TypeInfo} (hu : P.underlying t = some (.pointer e)) (hi : P.info? e = some ie) (hne : ie.size ≠ 0) (x y : Option Addr) (b : Bool)
    (h : match x, y with | none, y => b = y.isNone | some _, none => b = false | some p, some q => (sameAddr p q).run P w = .ok b w) : (Op.equal t (.pointer x) (.pointer y)).run P w = .ok b w := by
  have key : ∀ d, (Op.equalIn (d + 1) t (.pointer x) (.pointer y)).run P w = .ok b w := by
    intro d
    cases x with
    | none => simp only [] at h; subst h; simp [Op.equalIn, run_underlying hu]
    | some p =>
      cases y with
      | none => simp only [] at h; subst h; simp [Op.equalIn, run_underlying hu]
      | some q => simp only [] at h; simp [Op.equalIn, run_underlying hu, sizeOf, typeInfo, hi, hne, h]
  exact key 9999

theorem run_equal_map {k e t : TypeId} (hu : P.underlying t = some (.map k e)) (x y : Option Nat) (b : Bool) (h : match x, y with | none, y => b = y.isNone | some _, none => b = false | _, _ => False) :
    (Op.equal t (.map x) (.map y)).run P w = .ok b w := by
  have key : ∀ d, (Op.equalIn (d + 1) t (.map x) (.map y)).run P w = .ok b w := by
    intro d
    cases x with
    | none => simp only [] at h; subst h; simp [Op.equalIn, run_underlying hu]
    | some p =>
      cases y with
      | none => simp only [] at h; subst h; simp [Op.equalIn, run_underlying hu]
      | some q => exact h.elim
  exact key 9999

theorem shape_at {w : World} {r : Nat} {arr : Array Value} {el : TypeId} {fz : Nat × Nat} (h : w.heap[r]? = some (.cells arr el fz)) : w.shape? r = some (el, arr.size) := by
  simp [World.shape?, h]

theorem frozen_at {w : World} {r : Nat} {arr : Array Value} {el : TypeId} (h : w.heap[r]? = some (.cells arr el (0, 0))) (o : Nat) : w.frozen? ⟨r, o, none⟩ = false := by
  simp [World.frozen?, h]

theorem run_sameAddr_apart {r1 r2 o1 o2 : Nat} (hne : r1 ≠ r2) {a1 a2 : Array Value} {e1 e2 : TypeId} (h1 : w.heap[r1]? = some (.cells a1 e1 (0, 0))) (h2 : w.heap[r2]? = some (.cells a2 e2 (0, 0))) :
    (sameAddr ⟨r1, o1, none⟩ ⟨r2, o2, none⟩).run P w = .ok false w := by
  simp [sameAddr, hne, frozen_at h1, frozen_at h2, noView, viewAt, shape_at h1, shape_at h2, mayBeOne, stringish]

theorem run_sameAddr_one {r o1 o2 : Nat} : (sameAddr ⟨r, o1, none⟩ ⟨r, o2, none⟩).run P w = .ok (decide (o1 = o2)) w := by
  by_cases h : o1 = o2 <;> simp [sameAddr, h]

theorem ok_eq (hf : FInv B n Γ L s a.tmps w) {neg : Bool} {ty : EqT} {t : TypeId} {x y : Opd} {X Y : Operand} {v u : V} {r : Bool} (hx : okOpd x X = true) (hy : okOpd y Y = true) (ht : tEq P ty t = true)
    (hv : x.eval s.E = some v) (hu : y.eval s.E = some u) (h : eqV s.H ty v u = some r) :
    VOK P Γ L w (do eqGuard (if neg then .neq else .eql) t X Y (a.eval X) (a.eval Y); binOp (if neg then .neq else .eql) t (a.eval X) (a.eval Y)) (.bool (if neg then !r else r)) := by
  have hrx := opd_rep hf hx hv
  have hry := opd_rep hf hy hu
  refine .here hf.heap ?_ (.bool _)
  have fin : ∀ X' Y' : Value, (eqGuard (if neg then .neq else .eql) t X Y X' Y').run P w = .ok () w → (∀ op, op = BinOp.eql ∨ op = BinOp.neq → binOp op t X' Y' = match op with | .neq => (do pure (.bool (!(← Op.equal t X' Y')))) | _ => (do pure (.bool (← Op.equal t X' Y')))) →
      (Op.equal t X' Y').run P w = .ok r w →
      Sem.run P (do eqGuard (if neg then .neq else .eql) t X Y X' Y'; binOp (if neg then .neq else .eql) t X' Y') w = .ok (.bool (if neg then !r else r)) w := by
    intro X' Y' h1 h2 h3
    cases neg
    · simp only [Bool.false_eq_true, if_false] at h1 ⊢
      simp only [Sem.run_bind, h1, Result.andThen_ok, h2 .eql (.inl rfl), h3, Sem.run_pure]
    · simp only [if_true] at h1 ⊢
      simp only [Sem.run_bind, h1, Result.andThen_ok, h2 .neq (.inr rfl), h3, Sem.run_pure]
  unfold tEq at ht
  split at ht
  · -- a struct
    rename_i ks fs hun
    simp only [eqV] at h
    split at h
    · rw [Bool.and_eq_true] at ht
      obtain ⟨xs, ex, h1⟩ := hrx.inv_agg
      obtain ⟨ys, ey, h2⟩ := hry.inv_agg
      rw [ex, ey]
      refine fin _ _ (run_eqGuard_agg w _ t X Y _ _ (by simpa using ht.2)) (fun op hop => by rcases hop with rfl | rfl <;> simp [binOp]) ?_
      exact eqAgg_run (of_decide_eq_true ht.1) (by simp [tAgg, hun]) h1 h2 h
    · cases h
  · rename_i ks m e hun
    simp only [eqV] at h
    split at h
    · rw [Bool.and_eq_true] at ht
      obtain ⟨xs, ex, h1⟩ := hrx.inv_agg
      obtain ⟨ys, ey, h2⟩ := hry.inv_agg
      rw [ex, ey]
      refine fin _ _ (run_eqGuard_agg w _ t X Y _ _ (by simpa using ht.2)) (fun op hop => by rcases hop with rfl | rfl <;> simp [binOp]) ?_
      exact eqAgg_run (of_decide_eq_true ht.1) (by simp [tAgg, hun]) h1 h2 h
    · cases h
  · -- pointers
    rename_i e hun
    split at ht
    · rename_i ie hie
      have hne : ie.size ≠ 0 := of_decide_eq_true ht
      simp only [eqV] at h
      have go : ∀ px py : Option Addr,
          (match px, py with | none, y => r = y.isNone | some _, none => r = false | some p, some q => (sameAddr p q).run P w = .ok r w) →
          Sem.run P (do eqGuard (if neg then .neq else .eql) t X Y (.pointer px) (.pointer py); binOp (if neg then .neq else .eql) t (.pointer px) (.pointer py)) w = .ok (.bool (if neg then !r else r)) w := by
        intro px py hh
        exact fin _ _ (by cases neg <;> simp [eqGuard]) (fun op hop => by rcases hop with rfl | rfl <;> simp [binOp]) (run_equal_ptr hun hie hne px py r hh)
      cases v <;> cases u <;> simp only [eqPtr, reduceCtorEq, Option.some.injEq] at h
      · cases hrx' : a.eval X <;> rw [hrx'] at hrx <;> cases hrx
        cases hry' : a.eval Y <;> rw [hry'] at hry <;> cases hry
        exact go _ _ (by simp [← h])
      · cases hrx' : a.eval X <;> rw [hrx'] at hrx <;> cases hrx
        cases hry' : a.eval Y <;> rw [hry'] at hry <;> cases hry
        exact go _ _ (by simp [← h])
      · cases hrx' : a.eval X <;> rw [hrx'] at hrx <;> cases hrx
        cases hry' : a.eval Y <;> rw [hry'] at hry <;> cases hry
        exact go _ _ (by simp [← h])
      · cases hrx' : a.eval X <;> rw [hrx'] at hrx <;> cases hrx
        cases hry' : a.eval Y <;> rw [hry'] at hry <;> cases hry
        exact go _ _ (by simp [← h])
      · rename_i b1 o1 b2 o2
        cases hrx' : a.eval X <;> rw [hrx'] at hrx <;> cases hrx
        rename_i r1 hr1
        cases hry' : a.eval Y <;> rw [hry'] at hry <;> cases hry
        rename_i r2 hr2
        refine go _ _ ?_
        simp only []
        by_cases hb : b1 = b2
        · subst hb
          rw [hr1] at hr2
          injection hr2 with hr2
          subst hr2
          rw [if_pos rfl] at h
          injection h with h
          subst h
          exact run_sameAddr_one
        · rw [if_neg hb] at h
          split at h
          · rename_i c1 c2 hb1 hb2
            injection h with h
            subst h
            obtain ⟨r1', arr1, el1, t1, e1, w1, _⟩ := hf.heap.cells _ _ hb1
            obtain ⟨r2', arr2, el2, t2, e2, w2, _⟩ := hf.heap.cells _ _ hb2
            rw [hr1] at e1
            rw [hr2] at e2
            injection e1 with e1
            injection e2 with e2
            subst e1; subst e2
            refine run_sameAddr_apart (fun e => ?_) w1 w2
            exact hb (hf.heap.inj _ _ r1 (by simp [real, hb1, hr1]) (by simp [real, hb2, hr2, e]))
          · cases h
      · cases hrx' : a.eval X <;> rw [hrx'] at hrx <;> cases hrx
        cases hry' : a.eval Y <;> rw [hry'] at hry <;> cases hry
        exact go _ _ (by simp [← h])
    · cases ht
  · -- bools
    rename_i hun
    simp only [eqV] at h
    cases v <;> cases u <;> simp only [eqK, reduceCtorEq, Option.some.injEq] at h
    rw [hrx.inv_bool, hry.inv_bool]
    subst h
    refine fin _ _ (by cases neg <;> simp [eqGuard]) (fun op hop => by rcases hop with rfl | rfl <;> simp [binOp]) ?_
    exact eqK_run (Γ := Γ) (L := L) (k := .b) (.bool _) (.bool _) rfl hun
  · -- maps
    rename_i k e hun
    simp only [eqV] at h
    cases v <;> cases u <;> simp only [reduceCtorEq, Option.some.injEq] at h
    all_goals
      cases hrx' : a.eval X <;> rw [hrx'] at hrx <;> cases hrx
      cases hry' : a.eval Y <;> rw [hry'] at hry <;> cases hry
      subst h
      refine fin _ _ (by cases neg <;> simp [eqGuard]) (fun op hop => by rcases hop with rfl | rfl <;> simp [binOp]) ?_
      exact run_equal_map hun _ _ _ (by simp)
  · cases ht

end
end Go.Abs
