/-
  ONE OPERATION: append, maps, calls.
-/
import Derived.Test.YtagmcgbbgjkdbaaAbs13
set_option linter.all false
namespace Go.Abs
open Go

section
variable {P : Program} {B n na : Nat} {Γ Γ' : Imm} {L L' : Locs} {s s' s'' : St} {a : Act} {w w' : World} {H H' : Nat → Option Blk} {next next' base floor : Nat} {c : Ctx} {o : Oper} {io : IOper} {Q : Exit → Act → World → Prop}

structure AppendOK (P : Program) (sz : Nat) (t u : TypeId) : Prop where
  pos : 0 < sz
  get : ∃ e ie z, P.underlying t = some (.slice e) ∧ tSize P e sz = true ∧ P.info? e = some ie ∧ ie.bytes ≤ 4096 ∧ ie.zero = some z ∧ z.cells.size = sz
  arg : (∃ e', P.underlying u = some (.slice e')) ∨ P.underlying u = some .string

theorem run_append_call {t u : TypeId} {X Y : Operand} {tt : TypeId} {v : Value} (ho : o.op = .call { callee := .builtin .append, args := #[X, Y], argTypes := #[t, u] }) (h : (Builtin.append_ #[t, u] o.type #[a.eval X, a.eval Y]).run P w = .ok v w') :
    (execOp a.eval o).run P w = .ok (.value v) w' := by
  simp [execOp, ho, resolve, invoke, builtin, h]

theorem op_append_none (hg : Good c n Γ L s a.tmps w) {t u : TypeId} {sz : Nat} (hk : AppendOK P sz t u) {x y : Opd} {X Y : Operand} {xv yv : V} (hx : okOpd x X = true) (hy : okOpd y Y = true)
    (ho : o.op = .call { callee := .builtin .append, args := #[X, Y], argTypes := #[t, u] }) (hxv : x.eval s.E = some xv) (hyv : y.eval s.E = some yv) (he : elemsOf s.H sz yv = some []) (hsl : ∃ base' k cap, a.eval X = .slice base' k cap ∧ k ≤ cap)
    (hdst : io.dst = o.dst) (hdn : ∀ i, io.dst = some i → i < n) (hp : put s io.dst (.val xv) = some s'') {aid : Nat} : o.wp P a w (After c n base na aid L s a s'') Q := by
  obtain ⟨h1, xs, h2, h3, h4⟩ := elems_cells (P := P) hg.f hy hyv he rfl
  obtain ⟨e, ie, z, hu, hs, _⟩ := hk.get
  have : xs = [] := List.eq_nil_of_length_eq_zero (by simpa using h2)
  subst this
  obtain ⟨base', k, cap, ex, hcap⟩ := hsl
  refine wp_value' hg (run_append_call (tt := 0) ho ?_) (.refl hg.f.heap) (opd_rep hg.f hx hxv) hdst hdn hp
  rw [ex]
  exact run_append_none hu hs hk.arg hcap h1 (h4 w rfl)

/-- The cells of two slices, one behind the other. -/
theorem reps_flatten {es new : List (List V)} {xs ys : List Value} (h1 : Reps Γ L es.flatten xs) (h2 : Reps Γ L new.flatten ys) : Reps Γ L (es ++ new).flatten (xs ++ ys) := by
  rw [List.flatten_append]; exact h1.append h2

theorem allLen_append {sz : Nat} {es new : List (List V)} (h1 : ∀ e ∈ es, e.length = sz) (h2 : ∀ e ∈ new, e.length = sz) : ∀ e ∈ es ++ new, e.length = sz := by
  intro e he
  rcases List.mem_append.1 he with h | h
  · exact h1 e h
  · exact h2 e h

theorem chunks_flatten {sz : Nat} (hpos : 0 < sz) : ∀ {es : List (List V)}, (∀ e ∈ es, e.length = sz) → chunks sz es.length es.flatten = es
  | [], _ => rfl
  | e :: es, h => by
    have he := h e (by simp)
    simp only [List.length_cons, List.flatten_cons, chunks]
    rw [List.take_append_of_le_length (by omega), List.take_of_length_le (by omega), List.drop_append_of_le_length (by omega), List.drop_of_length_le (by omega), List.nil_append, chunks_flatten hpos (fun e he => h e (by simp [he]))]

/-- all elements of what a list stands for are of its size -/
theorem list_all {p : Perm} {es : List (List V)} {x : Value} {sz : Nat} (hr : Rep Γ L (.list p es) x) (hd : headLen sz es = true) : ∀ e ∈ es, e.length = sz := by
  obtain ⟨_, _, sz', _, _, _, h1, _⟩ := hr.inv_list
  intro e he
  have := headLen_spec hd h1 (by intro hh; subst hh; simp at he)
  subst this
  exact h1 e he

theorem elems_all (hf : FInv B n Γ L s a.tmps w) {y : Opd} {Y : Operand} {v : V} {sz : Nat} {new : List (List V)} (hy : okOpd y Y = true) (hv : y.eval s.E = some v) (he : elemsOf s.H sz v = some new) (hd : headLen sz new = true) :
    ∀ e ∈ new, e.length = sz := by
  have hr := opd_rep hf hy hv
  cases v <;> simp only [elemsOf, reduceCtorEq, Option.some.injEq] at he
  · rename_i b
    subst he
    intro e hm
    cases b with
    | nil => simp at hm
    | cons p q =>
      simp only [List.map_cons, headLen, List.length_cons, List.length_nil, beq_iff_eq] at hd
      rw [List.mem_map] at hm
      obtain ⟨_, _, rfl⟩ := hm
      exact hd
  · subst he
    exact list_all hr hd
  · split at he
    · rename_i hs
      subst hs
      split at he
      · rw [Option.bind_eq_some_iff] at he
        obtain ⟨cells, hg, he⟩ := he
        injection he with he
        subst he
        exact chunks_mem (by rw [getCells_length hg]; exact Nat.le_refl _)
      · cases he
    · cases he

/-- What an append that moves comes to. -/
theorem append_new (hg : Good c n Γ L s a.tmps w) {t u : TypeId} {sz : Nat} (hk : AppendOK P sz t u) {x y : Opd} {X Y : Operand} {p : Perm} {es new : List (List V)} {yv : V} {base' : Option Addr} {cap : Nat} (hx : okOpd x X = true) (hy : okOpd y Y = true)
    (hxv : x.eval s.E = some (.list p es)) (hyv : y.eval s.E = some yv) (he : elemsOf s.H sz yv = some new) (hd1 : headLen sz es = true) (hd2 : headLen sz new = true) (hroom : es.length + new.length ≤ room) (eX : a.eval X = .slice base' es.length cap) (hcap : cap < es.length + new.length) {rt : TypeId} :
    ∃ (cap' : Nat) (xs rest : List Value) (el : TypeId), es.length + new.length ≤ cap' ∧ rest.length = (cap' - (es.length + new.length)) * sz ∧ Reps Γ L (es ++ new).flatten xs ∧ xs.length = (es.length + new.length) * sz ∧
      (Builtin.append_ #[t, u] rt #[a.eval X, a.eval Y]).run P w = .ok (.slice (some ⟨w.heap.size, 0, none⟩) (es.length + new.length) cap') (pushBlk { w with drawn := w.drawn + 1 } (.cells (xs ++ rest).toArray el)) := by
  obtain ⟨e, ie, z, hu, hs, hie, hb, hz, hzs⟩ := hk.get
  obtain ⟨h1, ys, h2, h3, h4⟩ := elems_cells (P := P) hg.f hy hyv he hd2
  obtain ⟨xs, g2, g3, g4⟩ := list_cells (P := P) hg.f.heap (opd_rep hg.f hx hxv) hd1
  rw [eX] at g4 ⊢
  obtain ⟨cap', rest, k1, k2, k3⟩ := run_append_new (P := P) (w := w) (rt := rt) (base := base') (sCap := cap) hu hs hk.arg hie hb hz hzs (show ¬ es.length + new.length ≤ cap by omega) hroom h1 h4 h2 g4 g2
  exact ⟨cap', xs ++ ys, rest, e, k1, k2, reps_flatten g3 h3, by rw [List.length_append, g2, h2, Nat.add_mul], k3⟩

theorem Ext0.drew (hi : HInv Γ L H next w) : Ext0 Γ w Γ { w with drawn := w.drawn + 1 } := ⟨Imm.le_refl _, rfl, rfl, rfl, Nat.le_refl _, fun _ _ => ⟨rfl, rfl⟩, hi.imm⟩

/-- 'append' of a slice without room: into memory that may be written. -/
theorem op_append_fullM (hg : Good c n Γ L s a.tmps w) (pl : Place c base na L s io) (hus : io.op.usesAid = true) {t u : TypeId} {sz : Nat} (hk : AppendOK P sz t u) {x y : Opd} {X Y : Operand} {es new : List (List V)} {yv : V} (hx : okOpd x X = true) (hy : okOpd y Y = true)
    (ho : o.op = .call { callee := .builtin .append, args := #[X, Y], argTypes := #[t, u] }) (hxv : x.eval s.E = some (.list .full es)) (hyv : y.eval s.E = some yv) (he : elemsOf s.H sz yv = some new) (hne : new ≠ [])
    (hd1 : headLen sz es = true) (hd2 : headLen sz new = true) (hroom : es.length + new.length ≤ room)
    (hdst : io.dst = o.dst) (hdn : ∀ i, io.dst = some i → i < n) (hp : put { s with H := upd s.H (base + io.aid) (some (.cells (es ++ new).flatten)) } io.dst (.val (.buf (base + io.aid) 0 sz (es.length + new.length))) = some s'') :
    o.wp P a w (After c n base na io.aid L s a s'') Q := by
  have hr := opd_rep hg.f hx hxv
  obtain ⟨base', cap, _, _, _, eX, _, _, _, _, hc1, hc2, _⟩ := hr.inv_list
  have hcap := hc2 rfl
  have hpos : 0 < new.length := List.length_pos_iff.2 hne
  obtain ⟨cap', xs, rest, el, k1, k2, k3, k4, k5⟩ := append_new (P := P) (rt := o.type) hg hk hx hy hxv hyv he hd1 hd2 hroom eX (by omega)
  have hE := Ext0.drew (w := w) hg.f.heap
  have hg1 := hg.ext0 hE
  have hrun := run_append_call (tt := 0) ho k5
  have key := wp_newBlk (P := P) (Q := Q) (o := o) (a := a) (io := io) (s'' := s'') hg1 pl hus (ob := .cells (xs ++ rest).toArray el (0, 0)) (b := .cells (es ++ new).flatten) (v := .buf (base + io.aid) 0 sz (es.length + new.length)) (x := .slice (some ⟨w.heap.size, 0, none⟩) (es.length + new.length) cap')
  unfold Oper.wp at key ⊢
  rw [hrun]
  obtain ⟨h1, h2⟩ := pl.aid hus
  have h3 := pl.cb
  have h4 := pl.fb
  have h5 := pl.bn
  obtain ⟨hi, hs⟩ := new_blk (floor := s.floor) (base := base) hg1.f.heap h2 (show base + io.aid < s.next by omega) (show s.floor ≤ base + io.aid by omega) (Nat.le_add_right _ _) (o := .cells (xs ++ rest).toArray el (0, 0)) (b := .cells (es ++ new).flatten) (.inl ⟨_, xs, rest, el, rfl, rfl, k3⟩)
  simp only [Oper.upon]
  rw [← hdst]
  refine ⟨_, _, (hg1.heap hi hs h3).put hdn hp (sl := .val _) (.buf _ 0 sz _ w.heap.size _ cap' upd_self (fun _ => rfl) k1), put_defers' _ _, Nat.le_of_eq (put_next hp).symm, fun b' _ hne hf => ?_⟩
  rw [put_H hp]
  exact ⟨by show upd s.H _ _ b' = none; rw [upd_other hne]; exact hf.1, by show upd L.blk _ _ b' = none; rw [upd_other hne]; exact hf.2.1, hf.2.2⟩

/-- A growing slice behind an append that moves it. -/
theorem append_moved (hg : Good c n Γ L s a.tmps w) (hcb : c.h.next ≤ base) (hbn : base ≤ s.next) {id sz k : Nat} {es : List (List V)} {xs rest : List Value} {el : TypeId} {cap' : Nat} (hfl : s.floor ≤ id) (hid : id < s.next)
    (hold : (Free L s.H id ∧ base ≤ id ∧ k = 0) ∨ (s.H id = some (.perm sz k) ∧ k < es.length ∧ ∀ j, k < j → L.perm id j = none)) (hkk : L.perm id es.length = none)
    (hcap : es.length ≤ cap') (hrest : rest.length = (cap' - es.length) * sz) (hr : Reps Γ L es.flatten xs) (hxs : xs.length = es.length * sz) (hall : ∀ e ∈ es, e.length = sz) (hpos : 0 < sz) (hne : es ≠ []) :
    ∃ Γ' L', Good c n Γ' L' { s with H := upd s.H id (some (.perm sz es.length)) } a.tmps (pushBlk { w with drawn := w.drawn + 1 } (.cells (xs ++ rest).toArray el)) ∧
      Rep Γ' L' (.list (.own id) es) (.slice (some ⟨w.heap.size, 0, none⟩) es.length cap') ∧ ∀ b', b' ≠ id → Free L s.H b' → Free L' (upd s.H id (some (.perm sz es.length))) b' := by
  have hg1 := hg.ext0 (Ext0.drew (w := w) hg.f.heap)
  have hΓn : Γ w.heap.size = none := by
    cases h : Γ w.heap.size with
    | none => rfl
    | some gs => exact absurd (hg.f.heap.imm_lt h) (Nat.lt_irrefl _)
  have hle : Γ.le (upd Γ w.heap.size (some xs)) := fun r gs hgs => ⟨[], by
    have : r ≠ w.heap.size := by intro e; subst e; rw [hΓn] at hgs; cases hgs
    rw [upd_other this]; simpa using hgs⟩
  obtain ⟨hi, hs⟩ := grow_perm (floor := s.floor) (base := base) (Γ' := upd Γ w.heap.size (some xs)) (w' := pushBlk { w with drawn := w.drawn + 1 } (.cells (xs ++ rest).toArray el)) hg1.f.heap (id := id) (sz := sz) (k := k) (k' := es.length) (q := some (w.heap.size, cap')) hfl hid hbn hold hkk
    ⟨rfl, rfl, rfl, by simp⟩ (fun h => by cases h) (fun r cap h => by
      injection h with h; injection h with h1 h2; subst h1; subst h2
      refine ⟨⟨(xs ++ rest).toArray, el, xs, rest, pushBlk_new (w := { w with drawn := w.drawn + 1 }) _, upd_self, by simp, hxs, ?_⟩, fun r1 h1 h2 => pushBlk_old (w := { w with drawn := w.drawn + 1 }) h2, fun r1 h1 => upd_other h1, .inl (Nat.le_refl _), fun gs hgs => by rw [hΓn] at hgs; cases hgs⟩
      simp only [List.size_toArray, List.length_append, hxs, hrest]
      rw [← Nat.add_mul, Nat.add_sub_cancel' hcap])
  refine ⟨_, _, hg1.heap hi hs hcb, ?_, fun b' hne hf => ?_⟩
  · have hL := hs.locs
    have hreps : Reps (upd Γ w.heap.size (some xs)) { L with perm := fun b j => if b = id ∧ j = es.length then some (some (w.heap.size, cap')) else L.perm b j } es.flatten xs := hr.mono hle hL
    have h0 := list_of_cells (p := .no) (sz := sz) (k := es.length) (cap := cap') (off := 0) (r := w.heap.size) (gs := xs) (xs := xs) (cs := es.flatten) upd_self (fun j x hx => by simpa using hx) hreps (by rw [hreps.1, hxs]) hcap (fun h => by cases h) (fun b h => by cases h)
    rw [chunks_flatten hpos hall] at h0
    obtain ⟨ad, cap2, sz2, gs, vals, e1, q1, q2, q3, q4, q5, q6, q7⟩ := h0.inv_list
    injection e1 with e1 _ e2
    subst e1; subst e2
    refine .list (.own id) es _ _ sz2 gs vals q1 q2 q3 q4 q5 (fun h => by cases h) (fun b hb => ?_)
    injection hb with hb
    subst hb
    refine ⟨by simp, fun ad had => ?_, fun h => by cases h⟩
    injection had with had; subst had
    exact ⟨rfl, rfl⟩
  · exact ⟨by rw [upd_other hne]; exact hf.1, hf.2.1, fun j => by show (if b' = id ∧ j = es.length then _ else L.perm b' j) = none; rw [if_neg (fun h => hne h.1)]; exact hf.2.2 j⟩

/-- 'append' of a slice without room: it gets room. -/
theorem op_append_full (hg : Good c n Γ L s a.tmps w) (pl : Place c base na L s io) (hus : io.op.usesAid = true) {t u : TypeId} {sz : Nat} (hk : AppendOK P sz t u) {x y : Opd} {X Y : Operand} {es new : List (List V)} {yv : V} (hx : okOpd x X = true) (hy : okOpd y Y = true)
    (ho : o.op = .call { callee := .builtin .append, args := #[X, Y], argTypes := #[t, u] }) (hxv : x.eval s.E = some (.list .full es)) (hyv : y.eval s.E = some yv) (he : elemsOf s.H sz yv = some new) (hne : new ≠ [])
    (hd1 : headLen sz es = true) (hd2 : headLen sz new = true) (hroom : es.length + new.length ≤ room)
    (hdst : io.dst = o.dst) (hdn : ∀ i, io.dst = some i → i < n) (hp : put { s with H := upd s.H (base + io.aid) (some (.perm sz (es.length + new.length))) } io.dst (.val (.list (.own (base + io.aid)) (es ++ new))) = some s'') :
    o.wp P a w (After c n base na io.aid L s a s'') Q := by
  have hr := opd_rep hg.f hx hxv
  obtain ⟨base', cap, _, _, _, eX, _, _, _, _, hc1, hc2, _⟩ := hr.inv_list
  have hcap := hc2 rfl
  have hpos : 0 < new.length := List.length_pos_iff.2 hne
  obtain ⟨cap', xs, rest, el, k1, k2, k3, k4, k5⟩ := append_new (P := P) (rt := o.type) hg hk hx hy hxv hyv he hd1 hd2 hroom eX (by omega)
  have hrun := run_append_call (tt := 0) ho k5
  obtain ⟨h1, h2⟩ := pl.aid hus
  have h3 := pl.cb
  have h4 := pl.fb
  have h5 := pl.bn
  have hl : (es ++ new).length = es.length + new.length := List.length_append
  obtain ⟨Γ', L', q1, q2, q3⟩ := append_moved (base := base) (es := es ++ new) (k := 0) hg h3 (by omega) (show s.floor ≤ base + io.aid by omega) (show base + io.aid < s.next by omega) (.inl ⟨h2, Nat.le_add_right _ _, rfl⟩) (h2.2.2 _) (by rw [hl]; exact k1) (by rw [hl]; exact k2) k3 (by rw [hl]; exact k4)
    (allLen_append (list_all hr hd1) (elems_all hg.f hy hyv he hd2)) hk.pos (by simp [hne])
  rw [hl] at q1 q2 q3
  unfold Oper.wp
  rw [hrun]
  simp only [Oper.upon]
  rw [← hdst]
  refine ⟨Γ', L', q1.put hdn hp (sl := .val _) q2, put_defers' _ _, Nat.le_of_eq (put_next hp).symm, fun b' _ hne hf => ?_⟩
  rw [put_H hp]
  exact q3 b' hne hf

end
end Go.Abs
