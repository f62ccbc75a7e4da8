/-
  WHAT READS AS A DEFINITION, AN EXPRESSION .. IS ONE OF OUR PLAIN LEAN TYPES; sizes and ranges.
-/
import Derived.Test.YtagmcgbbgjkdbaaRow0
import Derived.Test.YtagmcgbbgjkdbaaTy0
import Derived.Test.YtagmcgbbgjkdbaaRows
set_option linter.all false
namespace Go.Abs
open Go Go.ChangeShapes Go.WideShapes

/-! Sizes and ranges of values -/
mutual
def szV : V → Nat
  | .str s => s.length + 1
  | .list _ es => szLL es + 1
  | .agg cs => szL cs + 1
  | _ => 1
def szL : List V → Nat
  | [] => 0
  | v :: vs => szV v + szL vs
def szLL : List (List V) → Nat
  | [] => 0
  | v :: vs => szL v + szLL vs
end
mutual
def wfV : V → Bool
  | .int k n => decide (k.min ≤ n) && decide (n ≤ k.max)
  | .list _ es => wfLL es
  | .agg cs => wfL cs
  | _ => true
def wfL : List V → Bool
  | [] => true
  | v :: vs => wfV v && wfL vs
def wfLL : List (List V) → Bool
  | [] => true
  | v :: vs => wfL v && wfLL vs
end
theorem szL_append : ∀ a b : List V, szL (a ++ b) = szL a + szL b
  | [], b => by simp [szL]
  | v :: a, b => by simp only [List.cons_append, szL, szL_append a b]; omega
theorem wfL_append : ∀ a b : List V, wfL (a ++ b) = (wfL a && wfL b)
  | [], b => by simp [wfL]
  | v :: a, b => by simp only [List.cons_append, wfL, wfL_append a b, Bool.and_assoc]
theorem szL_flatten : ∀ a : List (List V), szL a.flatten = szLL a
  | [] => rfl
  | v :: a => by simp only [List.flatten_cons, szL_append, szLL, szL_flatten a]
theorem wfL_flatten : ∀ a : List (List V), wfL a.flatten = wfLL a
  | [] => rfl
  | v :: a => by simp only [List.flatten_cons, wfL_append, wfLL, wfL_flatten a]
theorem szLL_mem {v : List V} : ∀ {l : List (List V)}, v ∈ l → szL v ≤ szLL l
  | [], h => by cases h
  | w :: l, h => by
    simp only [szLL]
    rcases List.mem_cons.1 h with rfl | h
    · omega
    · have := szLL_mem h; omega
theorem wfLL_mem {v : List V} : ∀ {l : List (List V)}, v ∈ l → wfLL l = true → wfL v = true
  | [], h, _ => by cases h
  | w :: l, h, k => by
    simp only [wfLL, Bool.and_eq_true] at k
    rcases List.mem_cons.1 h with rfl | h
    · exact k.1
    · exact wfLL_mem h k.2

section
variable {H : Type}
open Go.Proofs.Ytagmcgbbgjkdbaa in
mutual
theorem sz_vOf : ∀ d : DataW H, szL (vOf d) ≤ Rows.uptoBulk d
  | .lit l => by cases l <;> simp [vOf, vLit, szL, szV, Rows.uptoBulk]
  | .nil => by simp [vOf, szL, szV, szLL, Rows.uptoBulk]
  | .slice es sp => by have := sz_vOfs es; simp only [vOf, szL, szV, Rows.uptoBulk]; omega
  | .agg ds => by have := sz_vOfs ds; simp only [vOf, szL_flatten, Rows.uptoBulk]; omega
  | .ptr d => by simp [vOf, szL, szV, Rows.uptoBulk]
  | .iface t d => by simp [vOf, szL, szV, Rows.uptoBulk]
  | .map es => by simp [vOf, szL, szV, Rows.uptoBulk]
  | .held h => by simp [vOf, szL, szV, Rows.uptoBulk]
theorem sz_vOfs : ∀ ds : List (DataW H), szLL (vOfs ds) ≤ Rows.uptoBulkAll ds
  | [] => by simp [vOfs, szLL, Rows.uptoBulkAll]
  | d :: ds => by have := sz_vOf d; have := sz_vOfs ds; simp only [vOfs, szLL, Rows.uptoBulkAll]; omega
end
end

section
variable {H : Type} {enc : TypeId × Value → H} {P : Program} {w : World} {sp : Nat → Bool} {held : Bool} {T : List TypeId}

/-- It reads so, from some cells. -/
def RD (enc : TypeId × Value → H) (P : Program) (w : World) (sp : Nat → Bool) (held : Bool) (t : TypeId) (d : DataW H) : Prop := ∃ n cs ps, DataW.trod enc P w 0 sp held n t cs = some (d, ps)
def RDs (enc : TypeId × Value → H) (P : Program) (w : World) (sp : Nat → Bool) (held : Bool) : List TypeId → List (DataW H) → Prop
  | [], [] => True
  | t :: ts, d :: ds => RD enc P w sp held t d ∧ RDs enc P w sp held ts ds
  | _, _ => False

theorem wf_seq {n : Nat} (ih : ∀ t cs x, t ∈ T → DataW.trod enc P w 0 sp held n t cs = some x → wfL (vOf x.1) = true) : ∀ (xs : List (DataW H × List MemPlace)), (∀ x ∈ xs, ∃ t cs, t ∈ T ∧ DataW.trod enc P w 0 sp held n t cs = some x) → wfLL (vOfs (xs.map (·.1))) = true
  | [], _ => rfl
  | x :: xs, h => by
    obtain ⟨t, cs, ht, hx⟩ := h x List.mem_cons_self
    simp only [List.map_cons, vOfs, wfLL, Bool.and_eq_true]
    exact ⟨ih t cs x ht hx, wf_seq ih xs fun y hy => h y (List.mem_cons_of_mem _ hy)⟩

theorem seqOK_mem : ∀ (fs : List Field) (off n : Nat), seqOK P T fs off n = true → ∀ f ∈ fs, f.type ∈ T
  | [], _, _, _, f, hf => by cases hf
  | g :: fs, off, n, h, f, hf => by
    simp only [seqOK, Bool.and_eq_true] at h
    rcases List.mem_cons.1 hf with rfl | hf
    · exact contains_mem h.1.1
    · exact seqOK_mem fs _ n h.2 f hf

theorem wf_trod (hT : plainOK P T = true) : ∀ (n : Nat) (t : TypeId) (cs : List Value) (x : DataW H × List MemPlace), t ∈ T → DataW.trod enc P w 0 sp held n t cs = some x → wfL (vOf x.1) = true
  | 0, t, cs, x, _, h => by simp [DataW.trod] at h
  | n + 1, t, cs, x, ht, h => by
    have ih : ∀ t cs x, t ∈ T → DataW.trod enc P w 0 sp held n t cs = some x → wfL (vOf x.1) = true := wf_trod hT n
    have hk := List.all_eq_true.1 hT t ht
    cases hu : P.underlying t with
    | none => rw [hu] at hk; cases hk
    | some u =>
      rw [hu] at hk
      cases u
      case bool => obtain ⟨b, rfl, rfl⟩ := DataW.trod_bool hu h; rfl
      case int k =>
        obtain ⟨b, rfl, rfl, hw⟩ := DataW.trod_int hu h
        simp only [Lit.wf] at hw
        simpa [vOf, vLit, wfL, wfV] using hw
      case string => obtain ⟨s, rfl, rfl, _⟩ := DataW.trod_string hu h; rfl
      case slice e =>
        simp only [Bool.and_eq_true, decide_eq_true_eq] at hk
        rcases DataW.trod_slice hu h with ⟨rfl, rfl⟩ | ⟨a, len, cap, elems, rest, m, hm, rfl, rfl, _, hle, hcap, hlen, hel, _, _⟩
        · rfl
        · simp only [Nat.add_right_cancel_iff] at hm
          subst hm
          simp only [vOf, wfL, wfV, Bool.and_true]
          refine wf_seq ih elems fun y hy => ?_
          obtain ⟨i, hi⟩ := List.mem_iff_getElem?.1 hy
          have hlt := (List.getElem?_eq_some_iff.1 hi).1
          have := hel i (by omega)
          rw [hi] at this
          obtain ⟨cs', _, h2⟩ := Option.bind_eq_some_iff.1 this
          exact ⟨e, cs', contains_mem hk.1, h2⟩
      case struct fs =>
        obtain ⟨xs, m, hm, rfl, hl, hlx, hx⟩ := DataW.trod_struct hu h
        simp only [Nat.add_right_cancel_iff] at hm
        subst hm
        simp only [vOf, wfL_flatten]
        refine wf_seq ih xs fun y hy => ?_
        obtain ⟨i, hi⟩ := List.mem_iff_getElem?.1 hy
        have hlt := (List.getElem?_eq_some_iff.1 hi).1
        have hf : fs[i]? = some (fs[i]'(by omega)) := Array.getElem?_eq_getElem _
        have := hx i _ hf
        rw [hi] at this
        exact ⟨_, _, seqOK_mem _ _ _ hk _ (by simp), this⟩
      case array k e =>
        simp only [Bool.and_eq_true, decide_eq_true_eq] at hk
        obtain ⟨xs, m, hm, rfl, hl, hlx, hx⟩ := DataW.trod_array hu h
        simp only [Nat.add_right_cancel_iff] at hm
        subst hm
        simp only [vOf, wfL_flatten]
        refine wf_seq ih xs fun y hy => ?_
        obtain ⟨i, hi⟩ := List.mem_iff_getElem?.1 hy
        have hlt := (List.getElem?_eq_some_iff.1 hi).1
        have := hx i (by omega)
        rw [hi] at this
        exact ⟨_, _, contains_mem hk.1, this⟩
      all_goals cases hk

theorem RDs.cons {t : TypeId} {ts : List TypeId} {ds : List (DataW H)} (h : RDs enc P w sp held (t :: ts) ds) : ∃ d ds', ds = d :: ds' ∧ RD enc P w sp held t d ∧ RDs enc P w sp held ts ds' := by
  cases ds with
  | nil => exact h.elim
  | cons d ds => exact ⟨d, ds, rfl, h.1, h.2⟩
theorem RDs.nil {ds : List (DataW H)} (h : RDs enc P w sp held [] ds) : ds = [] := by
  cases ds with
  | nil => rfl
  | cons d ds => exact h.elim
theorem RD.of {t : TypeId} {v : Value} {d : DataW H} {ps : List MemPlace} (h : DataW.Trod enc P w 0 sp held t v d ps) : RD enc P w sp held t d := by
  obtain ⟨n, hn⟩ := h
  exact ⟨n, _, _, hn⟩
theorem RD.wf (hT : plainOK P T = true) {t : TypeId} (ht : t ∈ T) {d : DataW H} (h : RD enc P w sp held t d) : wfL (vOf d) = true := by
  obtain ⟨n, cs, ps, hn⟩ := h
  exact wf_trod hT n t cs _ ht hn
theorem RD.bool {t : TypeId} {d : DataW H} (hu : P.underlying t = some .bool) (h : RD enc P w sp held t d) : ∃ b, d = .lit (.bool b) := by
  obtain ⟨n, cs, ps, hn⟩ := h
  obtain ⟨b, _, hx⟩ := DataW.trod_bool hu hn
  exact ⟨b, (Prod.mk.inj hx).1⟩
theorem RD.int {t : TypeId} {k : IntKind} {d : DataW H} (hu : P.underlying t = some (.int k)) (h : RD enc P w sp held t d) : ∃ b, d = .lit (.int k b) := by
  obtain ⟨n, cs, ps, hn⟩ := h
  obtain ⟨b, _, hx, _⟩ := DataW.trod_int hu hn
  exact ⟨b, (Prod.mk.inj hx).1⟩
theorem RD.str {t : TypeId} {d : DataW H} (hu : P.underlying t = some .string) (h : RD enc P w sp held t d) : ∃ s, d = .lit (.string s) := by
  obtain ⟨n, cs, ps, hn⟩ := h
  obtain ⟨b, _, hx, _⟩ := DataW.trod_string hu hn
  exact ⟨_, (Prod.mk.inj hx).1⟩
theorem RD.slice {t e : TypeId} {d : DataW H} (hu : P.underlying t = some (.slice e)) (h : RD enc P w sp held t d) : d = .nil ∨ ∃ es r, d = .slice es r ∧ ∀ x ∈ es, RD enc P w sp held e x := by
  obtain ⟨n, cs, ps, hn⟩ := h
  rcases DataW.trod_slice hu hn with ⟨_, hx⟩ | ⟨a, len, cap, elems, rest, m, hm, _, hx, _, hle, hcap, hlen, hel, _, _⟩
  · exact .inl (Prod.mk.inj hx).1
  · refine .inr ⟨_, _, (Prod.mk.inj hx).1, fun y hy => ?_⟩
    obtain ⟨z, hz, rfl⟩ := List.mem_map.1 hy
    obtain ⟨i, hi⟩ := List.mem_iff_getElem?.1 hz
    have hlt := (List.getElem?_eq_some_iff.1 hi).1
    have := hel i (by omega)
    rw [hi] at this
    obtain ⟨cs', _, h2⟩ := Option.bind_eq_some_iff.1 this
    exact ⟨m, cs', _, h2⟩
theorem RDs.of : ∀ (fs : List Field) (xs : List (DataW H × List MemPlace)), xs.length = fs.length → (∀ (i : Nat) f x, fs[i]? = some f → xs[i]? = some x → RD enc P w sp held f.type x.1) → RDs enc P w sp held (fs.map (·.type)) (xs.map (·.1))
  | [], [], _, _ => trivial
  | [], _ :: _, h, _ => by simp at h
  | _ :: _, [], h, _ => by simp at h
  | f :: fs, x :: xs, h, k => ⟨k 0 f x rfl rfl, RDs.of fs xs (by simpa using h) fun i g y hg hy => k (i + 1) g y (by simpa using hg) (by simpa using hy)⟩
theorem RD.struct {t : TypeId} {fs : Array Field} {ts : List TypeId} {d : DataW H} (hu : P.underlying t = some (.struct fs)) (hts : fs.toList.map (·.type) = ts) (h : RD enc P w sp held t d) : ∃ ds, d = .agg ds ∧ RDs enc P w sp held ts ds := by
  obtain ⟨n, cs, ps, hn⟩ := h
  obtain ⟨xs, m, hm, hx, hl, hlx, hxs⟩ := DataW.trod_struct hu hn
  refine ⟨_, (Prod.mk.inj hx).1, ?_⟩
  rw [← hts]
  refine RDs.of _ _ (by simpa using hlx) fun i f x hf hy => ?_
  have := hxs i f (by simpa using hf)
  rw [hy] at this
  exact ⟨m, _, _, this⟩
theorem RD.array {t e : TypeId} {k : Nat} {d : DataW H} (hu : P.underlying t = some (.array k e)) (h : RD enc P w sp held t d) : ∃ ds, d = .agg ds ∧ ds.length = k ∧ ∀ x ∈ ds, RD enc P w sp held e x := by
  obtain ⟨n, cs, ps, hn⟩ := h
  obtain ⟨xs, m, hm, hx, hl, hlx, hxs⟩ := DataW.trod_array hu hn
  refine ⟨_, (Prod.mk.inj hx).1, by simpa using hlx, fun y hy => ?_⟩
  obtain ⟨z, hz, rfl⟩ := List.mem_map.1 hy
  obtain ⟨i, hi⟩ := List.mem_iff_getElem?.1 hz
  have hlt := (List.getElem?_eq_some_iff.1 hi).1
  have := hxs i (by omega)
  rw [hi] at this
  exact ⟨m, _, _, this⟩

/-- The numbers of the program's types. -/
structure ApiT (P : Program) where
  int : TypeId
  bool : TypeId
  str : TypeId
  u64 : TypeId
  nat : TypeId
  dec : TypeId
  val : TypeId
  typ : TypeId
  expr : TypeId
  exprs : TypeId
  hint : P.underlying int = some (.int .i64)
  hbool : P.underlying bool = some .bool
  hstr : P.underlying str = some .string
  hu64 : P.underlying u64 = some (.int .u64)
  hnat : P.underlying nat = some (.array 4 u64)
  fdec : Array Field
  hdec : P.underlying dec = some (.struct fdec)
  tdec : fdec.toList.map (·.type) = [bool, nat, int]
  fval : Array Field
  hval : P.underlying val = some (.struct fval)
  tval : fval.toList.map (·.type) = [int, dec, bool, str, int]
  ftyp : Array Field
  htyp : P.underlying typ = some (.struct ftyp)
  ttyp : ftyp.toList.map (·.type) = [int, int]
  fexpr : Array Field
  hexpr : P.underlying expr = some (.struct fexpr)
  texpr : fexpr.toList.map (·.type) = [int, int, str, str, val, int, int, exprs]
  hexprs : P.underlying exprs = some (.slice expr)

variable (A : ApiT P)
theorem rd_dec {d : DataW H} (h : RD enc P w sp held A.dec d) : ∃ x : M.Dec, vOf d = x.cells := by
  obtain ⟨ds, rfl, hh⟩ := RD.struct A.hdec A.tdec h
  obtain ⟨a, ds, rfl, h1, hh⟩ := hh.cons
  obtain ⟨b, ds, rfl, h2, hh⟩ := hh.cons
  obtain ⟨c, ds, rfl, h3, hh⟩ := hh.cons
  obtain rfl := hh.nil
  obtain ⟨neg, rfl⟩ := h1.bool A.hbool
  obtain ⟨l, rfl, hl, hn⟩ := h2.array A.hnat
  obtain ⟨sc, rfl⟩ := h3.int A.hint
  match l, hl with
  | [n0, n1, n2, n3], _ =>
    obtain ⟨a0, rfl⟩ := (hn n0 (by simp)).int A.hu64
    obtain ⟨a1, rfl⟩ := (hn n1 (by simp)).int A.hu64
    obtain ⟨a2, rfl⟩ := (hn n2 (by simp)).int A.hu64
    obtain ⟨a3, rfl⟩ := (hn n3 (by simp)).int A.hu64
    exact ⟨⟨neg, a0, a1, a2, a3, sc⟩, rfl⟩
theorem rd_val {d : DataW H} (h : RD enc P w sp held A.val d) : ∃ x : M.Val, vOf d = x.cells := by
  obtain ⟨ds, rfl, hh⟩ := RD.struct A.hval A.tval h
  obtain ⟨a, ds, rfl, h1, hh⟩ := hh.cons
  obtain ⟨b, ds, rfl, h2, hh⟩ := hh.cons
  obtain ⟨c, ds, rfl, h3, hh⟩ := hh.cons
  obtain ⟨e, ds, rfl, h4, hh⟩ := hh.cons
  obtain ⟨f, ds, rfl, h5, hh⟩ := hh.cons
  obtain rfl := hh.nil
  obtain ⟨k, rfl⟩ := h1.int A.hint
  obtain ⟨num, hnum⟩ := rd_dec A h2
  obtain ⟨flag, rfl⟩ := h3.bool A.hbool
  obtain ⟨text, rfl⟩ := h4.str A.hstr
  obtain ⟨err, rfl⟩ := h5.int A.hint
  exact ⟨⟨k, num, flag, text, err⟩, by simp [vOf, vOfs, hnum, vLit, M.Dec.cells, M.Val.cells]⟩
theorem rd_list {β : Type} {f : β → List V} {t e : TypeId} (hu : P.underlying t = some (.slice e)) {d : DataW H} (h : RD enc P w sp held t d)
    (hr : ∀ es r y, d = .slice es r → y ∈ es → RD enc P w sp held e y → ∃ x : β, vOf y = f x) : ∃ l : List β, vOf d = [.list .no (l.map f)] := by
  rcases h.slice hu with rfl | ⟨es, r, rfl, hx⟩
  · exact ⟨[], rfl⟩
  · have key : ∀ l : List (DataW H), (∀ y ∈ l, y ∈ es) → ∃ l' : List β, vOfs l = l'.map f := by
      intro l
      induction l with
      | nil => intro _; exact ⟨[], rfl⟩
      | cons y l ih =>
        intro hl
        obtain ⟨x, hx'⟩ := hr es r y rfl (hl y List.mem_cons_self) (hx y (hl y List.mem_cons_self))
        obtain ⟨l', hl'⟩ := ih fun z hz => hl z (List.mem_cons_of_mem _ hz)
        exact ⟨x :: l', by simp [vOfs, hx', hl']⟩
    obtain ⟨l', hl'⟩ := key es fun _ h => h
    exact ⟨l', by simp [vOf, hl']⟩
open Go.Proofs.Ytagmcgbbgjkdbaa in
theorem bulk_mem {d : DataW H} : ∀ {l : List (DataW H)}, d ∈ l → Rows.uptoBulk d ≤ Rows.uptoBulkAll l
  | [], h => by cases h
  | x :: l, h => by
    simp only [Rows.uptoBulkAll]
    rcases List.mem_cons.1 h with rfl | h
    · omega
    · have := bulk_mem h; omega
open Go.Proofs.Ytagmcgbbgjkdbaa in
theorem rd_expr' : ∀ (N : Nat) (d : DataW H), Rows.uptoBulk d ≤ N → RD enc P w sp held A.expr d → ∃ x : M.Expr, vOf d = x.cells
  | 0, d, hN, h => by
    obtain ⟨ds, rfl, _⟩ := RD.struct A.hexpr A.texpr h
    simp [Rows.uptoBulk] at hN
  | N + 1, d, hN, h => by
    obtain ⟨ds, rfl, hh⟩ := RD.struct A.hexpr A.texpr h
    obtain ⟨a, ds, rfl, h1, hh⟩ := hh.cons
    obtain ⟨b, ds, rfl, h2, hh⟩ := hh.cons
    obtain ⟨c, ds, rfl, h3, hh⟩ := hh.cons
    obtain ⟨e, ds, rfl, h4, hh⟩ := hh.cons
    obtain ⟨f, ds, rfl, h5, hh⟩ := hh.cons
    obtain ⟨g, ds, rfl, h6, hh⟩ := hh.cons
    obtain ⟨i, ds, rfl, h7, hh⟩ := hh.cons
    obtain ⟨j, ds, rfl, h8, hh⟩ := hh.cons
    obtain rfl := hh.nil
    obtain ⟨k, rfl⟩ := h1.int A.hint
    obtain ⟨o, rfl⟩ := h2.int A.hint
    obtain ⟨n, rfl⟩ := h3.str A.hstr
    obtain ⟨s, rfl⟩ := h4.str A.hstr
    obtain ⟨v, hv⟩ := rd_val A h5
    obtain ⟨sc, rfl⟩ := h6.int A.hint
    obtain ⟨p, rfl⟩ := h7.int A.hint
    obtain ⟨xs, hxs⟩ := rd_list (f := M.Expr.cells) A.hexprs h8 fun es r y he hy hd => rd_expr' N y (by
      subst he
      have := bulk_mem hy
      simp only [Rows.uptoBulk, Rows.uptoBulkAll] at hN
      omega) hd
    refine ⟨⟨k, o, n, s, v, sc, p, xs⟩, ?_⟩
    rw [M.Expr.cells_eq]
    simp [vOf, vOfs, hv, hxs, vLit, M.Val.cells]
theorem rd_expr {d : DataW H} (h : RD enc P w sp held A.expr d) : ∃ x : M.Expr, vOf d = x.cells := rd_expr' A _ d (Nat.le_refl _) h
end
end Go.Abs
