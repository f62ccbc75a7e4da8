/-
  ONE OPERATION: those that make or write memory.
-/
import Derived.Test.YtagmcgbbgjkdbaaAbs12
set_option linter.all false
namespace Go.Abs
open Go

section
variable {P : Program} {B n na : Nat} {Γ Γ' : Imm} {L L' : Locs} {s s' s'' : St} {a : Act} {w w' : World} {H H' : Nat → Option Blk} {next next' base floor : Nat} {c : Ctx} {o : Oper} {io : IOper} {Q : Exit → Act → World → Prop}

theorem tZero_spec {t : TypeId} {zero : List V} (h : tZero P t zero = true) : ∃ i z, P.info? t = some i ∧ i.zero = some z ∧ okConsts zero z.cells.toList = true := by
  unfold tZero at h
  split at h
  · rename_i i hi
    split at h
    · rename_i z hz; exact ⟨i, z, hi, hz, h⟩
    · cases h
  · cases h

/-- a block of cells that nothing of the abstract machine speaks of -/
theorem ext0_push (hi : HInv Γ L H next w) (o : Obj) : Ext0 Γ w Γ (pushBlk w o) :=
  ⟨Imm.le_refl _, rfl, rfl, rfl, by simp, fun r hr => ⟨pushBlk_old hr, rfl⟩, fun r gs h => by
      obtain ⟨arr, e, fz, hw, ht⟩ := hi.imm r gs h
      exact ⟨arr, e, fz, by rw [pushBlk_old (heap_lt hw)]; exact hw, ht⟩⟩

theorem wp_newVar (hg : Good c n Γ L s a.tmps w) {cs : List V} {xs : List Value} {el : TypeId} (hrun : (execOp a.eval o).run P w = .ok (.value (ptr w.heap.size 0)) (pushBlk w (.cells xs.toArray el))) (hr : Reps Γ L cs xs)
    (hdst : io.dst = o.dst) (hdn : ∀ i, io.dst = some i → i < n) (hp : put s io.dst (.var cs) = some s'') {aid : Nat} :
    o.wp P a w (After c n base na aid L s a s'') Q := by
  unfold Oper.wp
  rw [hrun]
  simp only [Oper.upon]
  rw [← hdst]
  cases hd : io.dst with
  | none =>
    rw [hd] at hp
    simp only [put, Option.some.injEq] at hp
    subst hp
    exact ⟨Γ, L, hg.ext0 (ext0_push hg.f.heap _), rfl, Nat.le_refl _, fun b _ _ hf => hf⟩
  | some d =>
    rw [hd] at hp
    exact ⟨Γ, L, hg.putVar (hdn d hd) hp hr, rfl, Nat.le_of_eq (put_next hp).symm, fun b _ _ hf => by rw [put_H hp]; exact hf⟩

theorem op_allocV (hg : Good c n Γ L s a.tmps w) {t : TypeId} {zero : List V} (hz : tZero P t zero = true) (ho : o.op = .alloc t)
    (hdst : io.dst = o.dst) (hdn : ∀ i, io.dst = some i → i < n) (hp : put s io.dst (.var zero) = some s'') {aid : Nat} : o.wp P a w (After c n base na aid L s a s'') Q := by
  obtain ⟨i, z, hi, hz', hok⟩ := tZero_spec hz
  refine wp_newVar hg (xs := z.cells.toList) (el := t) ?_ (okConsts_reps _ _ hok) hdst hdn hp
  simp [execOp, ho, Instr.alloc, zeroValue, typeInfo, hi, hz', newVar, newRow, pushBlk]

theorem op_boxV (hg : Good c n Γ L s a.tmps w) {t : TypeId} {x : Opd} {X : Operand} {v : V} (hx : okOpd x X = true) (hv : x.eval s.E = some v) (ho : o.op = .box t X)
    (hdst : io.dst = o.dst) (hdn : ∀ i, io.dst = some i → i < n) (hp : put s io.dst (.var v.cells) = some s'') {aid : Nat} : o.wp P a w (After c n base na aid L s a s'') Q := by
  refine wp_newVar hg (xs := (a.eval X).cells.toList) (el := t) ?_ (opd_rep hg.f hx hv).cells hdst hdn hp
  simp [execOp, ho, Instr.box, newVar, newRow, pushBlk]

/-- What the operations on memory need to know of where the region stands. -/
structure Place (c : Ctx) (base na : Nat) (L : Locs) (s : St) (io : IOper) : Prop where
  cb : c.h.next ≤ base
  fb : s.floor ≤ base
  bn : base + na ≤ s.next
  aid : io.op.usesAid = true → io.aid < na ∧ Free L s.H (base + io.aid)

theorem wp_newBlk (hg : Good c n Γ L s a.tmps w) (pl : Place c base na L s io) (hu : io.op.usesAid = true) {ob : Obj} {b : Blk} {v : V} {x : Value} (hrun : (execOp a.eval o).run P w = .ok (.value x) (pushBlk w ob))
    (hob : (∃ cs xs t el, b = .cells cs ∧ ob = .cells (xs ++ t).toArray el (0, 0) ∧ Reps Γ L cs xs) ∨ (b = .map [] ∧ ∃ clk, ob = .map #[] clk))
    (hr : ∀ L' : Locs, L'.blk (base + io.aid) = some w.heap.size → Rep Γ L' v x)
    (hdst : io.dst = o.dst) (hdn : ∀ i, io.dst = some i → i < n) (hp : put { s with H := upd s.H (base + io.aid) (some b) } io.dst (.val v) = some s'') :
    o.wp P a w (After c n base na io.aid L s a s'') Q := by
  obtain ⟨h1, h2⟩ := pl.aid hu
  have h3 := pl.cb
  have h4 := pl.fb
  have h5 := pl.bn
  obtain ⟨hi, hs⟩ := new_blk (floor := s.floor) (base := base) hg.f.heap h2 (show base + io.aid < s.next by omega) (show s.floor ≤ base + io.aid by omega) (Nat.le_add_right _ _) hob
  refine wp_heap (sl := .val v) rfl (hg.heap hi hs h3) (.inl hrun) (hr { L with blk := upd L.blk (base + io.aid) (some w.heap.size) } upd_self) hdst hdn hp (Nat.le_refl _) fun b' _ hne hf => ?_
  exact ⟨by show upd s.H _ _ b' = none; rw [upd_other hne]; exact hf.1, by show upd L.blk _ _ b' = none; rw [upd_other hne]; exact hf.2.1, hf.2.2⟩

theorem op_allocH (hg : Good c n Γ L s a.tmps w) (pl : Place c base na L s io) (hu : io.op.usesAid = true) {t : TypeId} {zero : List V} (hz : tZero P t zero = true) (ho : o.op = .alloc t)
    (hdst : io.dst = o.dst) (hdn : ∀ i, io.dst = some i → i < n) (hp : put { s with H := upd s.H (base + io.aid) (some (.cells zero)) } io.dst (.val (.ref (base + io.aid) 0)) = some s'') : o.wp P a w (After c n base na io.aid L s a s'') Q := by
  obtain ⟨i, z, hi, hz', hok⟩ := tZero_spec hz
  refine wp_newBlk hg pl hu (ob := .cells (z.cells.toList ++ []).toArray t (0, 0)) (x := ptr w.heap.size 0) ?_ (.inl ⟨zero, _, [], t, rfl, rfl, okConsts_reps _ _ hok⟩) (fun L' h => .ref _ _ _ h) hdst hdn hp
  simp [execOp, ho, Instr.alloc, zeroValue, typeInfo, hi, hz', newVar, newRow, pushBlk]

theorem op_boxH (hg : Good c n Γ L s a.tmps w) (pl : Place c base na L s io) (hu : io.op.usesAid = true) {t : TypeId} {x : Opd} {X : Operand} {v : V} (hx : okOpd x X = true) (hv : x.eval s.E = some v) (ho : o.op = .box t X)
    (hdst : io.dst = o.dst) (hdn : ∀ i, io.dst = some i → i < n) (hp : put { s with H := upd s.H (base + io.aid) (some (.cells v.cells)) } io.dst (.val (.ref (base + io.aid) 0)) = some s'') : o.wp P a w (After c n base na io.aid L s a s'') Q := by
  refine wp_newBlk hg pl hu (ob := .cells ((a.eval X).cells.toList ++ []).toArray t (0, 0)) (x := ptr w.heap.size 0) ?_ (.inl ⟨v.cells, _, [], t, rfl, rfl, (opd_rep hg.f hx hv).cells⟩) (fun L' h => .ref _ _ _ h) hdst hdn hp
  simp [execOp, ho, Instr.box, newVar, newRow, pushBlk]

theorem op_mkmap (hg : Good c n Γ L s a.tmps w) (pl : Place c base na L s io) (hu : io.op.usesAid = true) {t : TypeId} (ho : o.op = .makeMap t none)
    (hdst : io.dst = o.dst) (hdn : ∀ i, io.dst = some i → i < n) (hp : put { s with H := upd s.H (base + io.aid) (some (.map [])) } io.dst (.val (.mapr (base + io.aid))) = some s'') : o.wp P a w (After c n base na io.aid L s a s'') Q := by
  refine wp_newBlk hg pl hu (ob := .map #[] 0) (x := .map (some w.heap.size)) ?_ (.inr ⟨rfl, 0, rfl⟩) (fun L' h => .mapr _ _ h) hdst hdn hp
  simp [execOp, ho, Instr.makeMap, pushBlk]

theorem op_newPerm (hg : Good c n Γ L s a.tmps w) (pl : Place c base na L s io) (hu : io.op.usesAid = true) {sz : Nat} (hrun : (execOp a.eval o).run P w = .ok (.value (.slice none 0 0)) w)
    (hdst : io.dst = o.dst) (hdn : ∀ i, io.dst = some i → i < n) (hp : put { s with H := upd s.H (base + io.aid) (some (.perm sz 0)) } io.dst (.val (.list (.own (base + io.aid)) [])) = some s'') : o.wp P a w (After c n base na io.aid L s a s'') Q := by
  obtain ⟨h1, h2⟩ := pl.aid hu
  have h3 := pl.cb
  have h4 := pl.fb
  have h5 := pl.bn
  obtain ⟨hi, hs⟩ := grow_perm (floor := s.floor) (base := base) (Γ' := Γ) (w' := w) hg.f.heap (id := base + io.aid) (sz := sz) (k := 0) (k' := 0) (q := none) (show s.floor ≤ base + io.aid by omega) (show base + io.aid < s.next by omega) (by omega)
    (.inl ⟨h2, Nat.le_add_right _ _, rfl⟩) (h2.2.2 0) ⟨rfl, rfl, rfl, Nat.le_refl _⟩ (fun _ => ⟨rfl, rfl, rfl⟩) (fun r cap h => by cases h)
  refine wp_heap rfl (hg.heap hi hs h3) (.inl hrun) ?_ hdst hdn hp (Nat.le_refl _) fun b' _ hne hf => ?_
  · exact .list _ [] none 0 0 [] (fun _ _ => Go.undef) (by simp) (by simp) (by simp) (by simp) (by simp) (by simp) (fun b hb => by
      injection hb with hb; subst hb; exact ⟨by simp, by simp, fun _ => rfl⟩)
  · exact ⟨by show upd s.H _ _ b' = none; rw [upd_other hne]; exact hf.1, hf.2.1, fun j => by show (if b' = base + io.aid ∧ j = 0 then some none else L.perm b' j) = none; rw [if_neg (fun h => hne h.1)]; exact hf.2.2 j⟩

/-- A literal that is never written: its block stays. -/
theorem op_buildS (hg : Good c n Γ L s a.tmps w) {t : TypeId} {sz len : Nat} {zero : List V} {parts : List (Nat × Nat × Opd)} {Parts : Array (Nat × Operand)} {vs : List (Nat × Nat × V)} {out : List V} (ho : o.op = .buildSlice t len Parts)
    (hlen : len * sz ≤ 2 ^ 24) (hz : (match tElem P t sz with
      | some e => (match P.info? e with
        | some ie => (match ie.zero with
          | some z => decide (z.cells.size = sz) && decide (0 < sz) && okConsts zero ((Array.range (len * sz)).map (z.cells[· % z.cells.size]!)).toList
          | none => false)
        | none => false)
      | none => false) = true)
    (hpp : okParts (fun i off m => decide (off = i * sz) && decide (m = sz)) parts Parts.toList = true)
    (he : evalParts s.E parts = some vs) (h : fillV zero vs = some out) (hol : out.length = len * sz)
    (hdst : io.dst = o.dst) (hdn : ∀ i, io.dst = some i → i < n) (hp : put s io.dst (.val (.list .full (chunks sz len out))) = some s'') {aid : Nat} : o.wp P a w (After c n base na aid L s a s'') Q := by
  obtain ⟨hpos, ys, e, hrun, hr⟩ := buildSlice_run hg.f hlen hz hpp he h
  have hΓn : Γ w.heap.size = none := by
    cases h : Γ w.heap.size with
    | none => rfl
    | some gs => exact absurd (hg.f.heap.imm_lt h) (Nat.lt_irrefl _)
  have hle : Γ.le (upd Γ w.heap.size (some ys)) := fun r gs hgs => ⟨[], by
    have : r ≠ w.heap.size := by intro e; subst e; rw [hΓn] at hgs; cases hgs
    rw [upd_other this]; simpa using hgs⟩
  refine wp_value' hg (w' := pushBlk w (.cells ys.toArray e)) (Γ' := upd Γ w.heap.size (some ys)) (x := .slice (some ⟨w.heap.size, 0, none⟩) len len) ?_ ?_ ?_ hdst hdn hp
  · simp only [execOp, ho, Sem.run_bind, hrun, Result.andThen_ok, Sem.run_pure]; rfl
  · refine ⟨hle, rfl, rfl, rfl, by simp, fun r hr => ⟨pushBlk_old hr, upd_other (by omega)⟩, fun r gs hgs => ?_⟩
    by_cases hrs : r = w.heap.size
    · subst hrs
      rw [upd_self] at hgs
      injection hgs with hgs
      subst hgs
      exact ⟨_, e, (0, 0), pushBlk_new _, [], by simp⟩
    · rw [upd_other hrs] at hgs
      obtain ⟨arr, el, fz, hw, ht⟩ := hg.f.heap.imm r gs hgs
      exact ⟨arr, el, fz, by rw [pushBlk_old (heap_lt hw)]; exact hw, ht⟩
  · refine list_of_cells (gs := ys) (xs := ys) upd_self (fun j x hx => by simpa using hx) (hr.mono hle (Locs.le_refl _)) hol (Nat.le_refl _) (fun _ => rfl) (fun b hb => by cases hb)

theorem op_buildSM (hg : Good c n Γ L s a.tmps w) (pl : Place c base na L s io) (hu : io.op.usesAid = true) {t : TypeId} {sz len : Nat} {zero : List V} {parts : List (Nat × Nat × Opd)} {Parts : Array (Nat × Operand)} {vs : List (Nat × Nat × V)} {out : List V} (ho : o.op = .buildSlice t len Parts)
    (hlen : len * sz ≤ 2 ^ 24) (hz : (match tElem P t sz with
      | some e => (match P.info? e with
        | some ie => (match ie.zero with
          | some z => decide (z.cells.size = sz) && decide (0 < sz) && okConsts zero ((Array.range (len * sz)).map (z.cells[· % z.cells.size]!)).toList
          | none => false)
        | none => false)
      | none => false) = true)
    (hpp : okParts (fun i off m => decide (off = i * sz) && decide (m = sz)) parts Parts.toList = true)
    (he : evalParts s.E parts = some vs) (h : fillV zero vs = some out)
    (hdst : io.dst = o.dst) (hdn : ∀ i, io.dst = some i → i < n) (hp : put { s with H := upd s.H (base + io.aid) (some (.cells out)) } io.dst (.val (.buf (base + io.aid) 0 sz len)) = some s'') : o.wp P a w (After c n base na io.aid L s a s'') Q := by
  obtain ⟨hpos, ys, e, hrun, hr⟩ := buildSlice_run hg.f hlen hz hpp he h
  refine wp_newBlk hg pl hu (ob := .cells (ys ++ []).toArray e (0, 0)) (x := .slice (some ⟨w.heap.size, 0, none⟩) len len) ?_ (.inl ⟨out, ys, [], e, rfl, rfl, hr⟩) (fun L' hL => .buf _ 0 sz len _ _ len hL (fun _ => rfl) (Nat.le_refl _)) hdst hdn hp
  simp only [execOp, ho, Sem.run_bind, hrun, Result.andThen_ok, Sem.run_pure, List.append_nil]; rfl

theorem replicate_reps {zs : List V} {xs : List Value} (h : Reps Γ L zs xs) : ∀ k, Reps Γ L (List.replicate k zs).flatten (List.replicate k xs).flatten
  | 0 => .nil
  | k + 1 => by
    simp only [List.replicate_succ, List.flatten_cons]
    exact h.append (replicate_reps h k)

theorem zeroRow (xs : List Value) (hx : xs ≠ []) (k : Nat) : ((Array.range (k * xs.length)).map (xs.toArray[· % xs.toArray.size]!)).toList = (List.replicate k xs).flatten := by
  have hpos : 0 < xs.length := by cases xs <;> simp_all
  apply List.ext_getElem?
  intro j
  simp only [Array.toList_map, Array.toList_range, List.getElem?_map, List.size_toArray]
  by_cases hj : j < k * xs.length
  · rw [List.getElem?_range hj]
    simp only [Option.map_some]
    have hm : j % xs.length < xs.length := Nat.mod_lt _ hpos
    have : (List.replicate k xs).flatten[j]? = xs[j % xs.length]? := by
      clear hx hm
      induction k generalizing j with
      | zero => simp at hj
      | succ k ih =>
        rw [List.replicate_succ, List.flatten_cons]
        by_cases hlt : j < xs.length
        · rw [List.getElem?_append_left hlt, Nat.mod_eq_of_lt hlt]
        · rw [List.getElem?_append_right (by omega), ih (j - xs.length) (by rw [Nat.succ_mul] at hj; omega), ← Nat.mod_eq_sub_mod (by omega)]
    rw [this, List.getElem?_eq_getElem hm]
    simp [hm]
  · rw [List.getElem?_eq_none (by simpa using hj), List.getElem?_eq_none (by
      have : (List.replicate k xs).flatten.length = k * xs.length := by simp
      omega)]
    rfl

theorem op_mkslice (hg : Good c n Γ L s a.tmps w) (pl : Place c base na L s io) (hu : io.op.usesAid = true) {t e : TypeId} {sz k : Nat} {zero : List V} {x : Opd} {X Y : Operand} {v : V} (ho : o.op = .makeSlice t X Y)
    (hx : okOpd x X = true) (hy : okOpd x Y = true) (hpos : 0 < sz) (ht : tElem P t sz = some e) (hb : tBytes P e = true) (hz : tZero P e zero = true) (hzl : zero.length = sz) (hv : x.eval s.E = some v) (hk : idx? v room = some k)
    (hdst : io.dst = o.dst) (hdn : ∀ i, io.dst = some i → i < n) (hp : put { s with H := upd s.H (base + io.aid) (some (.cells (List.replicate k zero).flatten)) } io.dst (.val (.buf (base + io.aid) 0 sz k)) = some s'') :
    o.wp P a w (After c n base na io.aid L s a s'') Q := by
  obtain ⟨ik, rfl, hlt⟩ := idx_spec hk
  have e1 := (opd_rep hg.f hx hv).inv_int
  have e2 := (opd_rep hg.f hy hv).inv_int
  obtain ⟨hun, hs⟩ := tElem_spec ht
  obtain ⟨i, z, hi, hz', hok⟩ := tZero_spec hz
  have hrz := okConsts_reps (Γ := Γ) (L := L) _ _ hok
  have hzs : z.cells.toList.length = sz := by rw [← hrz.1, hzl]
  have hby : i.bytes ≤ 4096 := by
    unfold tBytes at hb
    rw [hi] at hb
    exact of_decide_eq_true hb
  unfold room at hlt
  have hw64 : IntKind.i64.wrap (k : Int) = (k : Int) := by
    have hmod : (k : Int) % 2 ^ 64 = (k : Int) := Int.emod_eq_of_lt (by omega) (by omega)
    simp only [IntKind.wrap, IntKind.bits, IntKind.signed, hmod, Bool.true_and, decide_eq_true_eq]
    rw [if_neg (by omega)]
  have hbig : ¬ (i.bytes * (k : Int) > 2 ^ 48) := by
    have : i.bytes * k ≤ 4096 * 4294967296 := Nat.mul_le_mul hby (by omega)
    omega
  have hne : z.cells.toList ≠ [] := by intro e; rw [e] at hzs; simp at hzs; omega
  have hrow := zeroRow z.cells.toList hne k
  refine wp_newBlk hg pl hu (ob := .cells ((List.replicate k z.cells.toList).flatten ++ []).toArray e (0, 0)) (x := .slice (some ⟨w.heap.size, 0, none⟩) k k) ?_ (.inl ⟨_, _, [], e, rfl, rfl, replicate_reps hrz k⟩)
    (fun L' hL => .buf _ 0 sz k _ _ k hL (fun _ => rfl) (Nat.le_refl _)) hdst hdn hp
  have hti : ∀ w : World, (typeInfo e).run P w = .ok i w := by intro w; simp [typeInfo, hi]
  have hcond : ¬ ((decide ((k : Int) < 0) || decide ((i.bytes : Int) * (k : Int) > 2 ^ 48) || decide ((k : Int) < 0) || decide ((k : Int) > (k : Int))) = true) := by
    simp only [Bool.or_eq_true, decide_eq_true_eq]
    omega
  have hzv : (zeroValue e).run P w = .ok z w := by simp [zeroValue, typeInfo, hi, hz']
  have hrow' : ((Array.range (k * sz)).map (z.cells[· % z.cells.size]!)) = (List.replicate k z.cells.toList).flatten.toArray := by
    apply Array.ext'
    rw [hzs] at hrow
    simpa using hrow
  simp only [execOp, ho, e1, e2, Sem.run_bind, Instr.makeSlice, run_underlying hun, Result.andThen_ok, asInt, asIntOf, Sem.run_pure, hti, hw64, if_neg hcond, run_askRoom, run_size hs, Int.toNat_natCast, List.append_nil]
  by_cases h0 : k * sz = 0
  · have hk0 : k = 0 := by
      rcases Nat.mul_eq_zero.1 h0 with h | h
      · exact h
      · omega
    subst hk0
    rw [if_pos (by simp)]
    simp only [Sem.run_pure, Result.andThen_ok, newRow, Sem.run_bind, run_newObj]
    simp [pushBlk, show Array.range 0 = (#[] : Array Nat) from rfl]
  · rw [if_neg h0]
    simp only [Sem.run_bind, hzv, Result.andThen_ok, Sem.run_pure, newRow, run_newObj, hrow']
    rfl

end
end Go.Abs
