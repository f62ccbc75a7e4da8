/-
  THE MODEL's OWN STEPS THAT WRITE: stores, append, make.
-/
import Derived.Test.YtagmcgbbgjkdbaaAbs9
set_option linter.all false
namespace Go.Abs
open Go

section
variable {P : Program} {B n : Nat} {Γ Γ' : Imm} {L L' : Locs} {s : St} {a : Act} {w w' : World} {H H' : Nat → Option Blk} {next next' base floor : Nat} {c : Ctx}

theorem world_ext {w w' : World} (h : w.heap = w'.heap) (ht : w.tape = w'.tape) (hd : w.drawn = w'.drawn) (ho : w.os = w'.os) (hq : w.output = w'.output) : w = w' := by
  cases w; cases w'; simp_all

theorem setCell_eq {r o : Nat} {arr : Array Value} {el : TypeId} {fz : Nat × Nat} {v : Value} (h : w.heap[r]? = some (.cells arr el fz)) :
    w.setCell ⟨r, o, none⟩ v = setBlk w r (.cells (arr.setIfInBounds o v) el fz) := by
  refine world_ext ?_ rfl rfl rfl rfl
  apply Array.ext_getElem?
  intro i
  simp only [World.setCell, setBlk, Array.getElem?_modify]
  by_cases hi : r = i
  · subst hi
    rw [if_pos rfl, h]
    have hlt := heap_lt h
    simp [hlt]
  · rw [if_neg hi, Array.getElem?_setIfInBounds_ne hi]

theorem setBlk_self {r : Nat} {o : Obj} (h : w.heap[r]? = some o) : setBlk w r o = w := by
  refine world_ext ?_ rfl rfl rfl rfl
  apply Array.ext_getElem?
  intro i
  by_cases hi : i = r
  · subst hi; rw [setBlk_same (heap_lt h), h]
  · exact setBlk_other hi

theorem setBlk_twice {r : Nat} {o o' : Obj} : setBlk (setBlk w r o) r o' = setBlk w r o' := by
  refine world_ext ?_ rfl rfl rfl rfl
  apply Array.ext_getElem?
  intro i
  by_cases hi : i = r
  · subst hi
    by_cases hlt : i < w.heap.size
    · rw [setBlk_same (by simpa using hlt), setBlk_same hlt]
    · rw [Array.getElem?_eq_none (by simpa using hlt), Array.getElem?_eq_none (by simpa using hlt)]
  · rw [setBlk_other hi, setBlk_other hi, setBlk_other hi]

/-- cells written one by one -/
theorem run_storeCells {r off : Nat} {el : TypeId} : ∀ (vs : List Value) (i : Nat) (w : World) (arr : Array Value), w.heap[r]? = some (.cells arr el (0, 0)) → off + i + vs.length ≤ arr.size → (∀ v ∈ vs, v.oneCell' = true) →
    ∃ arr' : Array Value, (storeCells ⟨r, off, none⟩ vs i).run P w = .ok () (setBlk w r (.cells arr' el (0, 0))) ∧ arr'.toList = arr.toList.take (off + i) ++ vs ++ arr.toList.drop (off + i + vs.length)
  | [], i, w, arr, hw, hl, ho => ⟨arr, by simp [storeCells, setBlk_self hw], by simp⟩
  | v :: vs, i, w, arr, hw, hl, ho => by
    simp only [List.length_cons] at hl
    have hcell : w.cell? ⟨r, off + i, none⟩ = some (arr[off + i]'(by omega)) := by
      rw [cell_at hw]; exact Array.getElem?_eq_getElem _
    have hst : (store (⟨r, off, none⟩ : Addr) v : Sem Unit) = store ⟨r, off, none⟩ v := rfl
    have h1 : (store ((⟨r, off, none⟩ : Addr).add i) v).run P w = .ok () (setBlk w r (.cells (arr.setIfInBounds (off + i) v) el (0, 0))) := by
      rw [addr_add, run_store P w _ v _ (ho v (by simp)), hcell]
      simp only [frozen_at hw]
      rw [setCell_eq hw]
      rfl
    have hlt := heap_lt hw
    obtain ⟨arr', h2, h3⟩ := run_storeCells (r := r) (off := off) (el := el) vs (i + 1) (setBlk w r (.cells (arr.setIfInBounds (off + i) v) el (0, 0))) (arr.setIfInBounds (off + i) v) (setBlk_same hlt) (by simp; omega) (fun v hv => ho v (by simp [hv]))
    refine ⟨arr', ?_, ?_⟩
    · simp only [storeCells, Sem.run_bind, h1, Result.andThen_ok, h2, setBlk_twice]
    · rw [h3]
      simp only [Array.toList_setIfInBounds, List.length_cons]
      have hlt : off + i < arr.toList.length := by simp; omega
      rw [show off + (i + 1) = off + i + 1 by omega, List.take_succ_eq_append_getElem (by simpa using hlt), List.getElem_set_self, List.take_set_of_le (by omega), List.drop_set_of_lt (by omega)]
      simp [show off + i + 1 + vs.length = off + i + (vs.length + 1) by omega]

theorem run_storeVar {t : TypeId} {k r off : Nat} {el : TypeId} {x : Value} {arr : Array Value} (hk : tSize P t k = true) (hx : x.cells.size = k) (ho : ∀ v ∈ x.cells.toList, v.oneCell' = true)
    (hw : w.heap[r]? = some (.cells arr el (0, 0))) (hl : off + k ≤ arr.size) :
    ∃ arr' : Array Value, (Instr.storeAt t (ptr r off) x).run P w = .ok () (setBlk w r (.cells arr' el (0, 0))) ∧ arr'.toList = arr.toList.take off ++ x.cells.toList ++ arr.toList.drop (off + k) := by
  obtain ⟨arr', h1, h2⟩ := run_storeCells (P := P) (r := r) (off := off) x.cells.toList 0 w arr hw (by simp; omega) ho
  refine ⟨arr', ?_, by rw [h2]; simp [hx]⟩
  have : ¬ (x.cells.size ≠ k) := by omega
  simp only [Instr.storeAt, Instr.sureAddr, Sem.run_bind, Sem.run_pure, Result.andThen_ok, storeVar, run_size hk, Sem.run_ite, if_neg this, h1]

/-- A store through an address of the abstract machine. -/
theorem store_ok (hg : Good c n Γ L s a.tmps w) (hbn : base ≤ s.next) (hcb : c.h.next ≤ base) {t : TypeId} {k : Nat} {x v : Opd} {X Y : Operand} {av : AV} {u : V} {s' : St} (hk : tSize P t k = true) (hx : okOpd x X = true) (hy : okOpd v Y = true)
    (ha : addrOf s.E x = some av) (hv : v.eval s.E = some u) (hl : u.cells.length = k) (ho : u.cells.all V.one = true) (hp : av.put s u.cells = some s') :
    ∃ w', (Instr.storeAt t (a.eval X) (a.eval Y)).run P w = .ok () w' ∧ Good c n Γ L s' a.tmps w' ∧ (∀ b, Free L s.H b → Free L s'.H b) ∧ s'.next = s.next ∧ s'.floor = s.floor := by
  have hf := hg.f
  have hA := addr_ok hf hx ha
  obtain ⟨r, o, e⟩ := aok_ptr hA
  have hru := (opd_rep hf hy hv).cells
  have hone : ∀ y ∈ (a.eval Y).cells.toList, y.oneCell' = true := by
    intro y hy
    obtain ⟨j, hj⟩ := List.mem_iff_getElem?.1 hy
    obtain ⟨cv, hcv⟩ : ∃ cv, u.cells[j]? = some cv := ⟨u.cells[j]'(by rw [hru.1]; exact (List.getElem?_eq_some_iff.1 hj).1), List.getElem?_eq_getElem _⟩
    exact (hru.2 j cv y hcv hj).oneCell (List.all_eq_true.1 ho cv (List.mem_of_getElem? hcv))
  have hsz : (a.eval Y).cells.size = k := by rw [← hl, hru.1]; simp
  rw [e] at hA ⊢
  have hreps : ∀ {cs cs' : List V} {xs : List Value}, setCells cs o u.cells = some cs' → Reps Γ L cs xs → Reps Γ L cs' (xs.take o ++ (a.eval Y).cells.toList ++ xs.drop (o + k)) ∧ o + k ≤ cs.length := by
    intro cs cs' xs hset hr
    obtain ⟨h1, rfl⟩ := setCells_spec hset
    rw [hl] at h1 ⊢
    exact ⟨((hr.take o).append hru).append (hr.drop _), h1⟩
  cases av with
  | loc t' o' =>
    obtain ⟨cs, r', h1, h2, h3⟩ := hA
    injection h3 with h3; injection h3 with h3; injection h3 with h3 h4
    subst h3; subst h4
    simp only [AV.put, h1, Option.bind_eq_some_iff, Option.some.injEq] at hp
    obtain ⟨cs', hset, rfl⟩ := hp
    obtain ⟨r', arr, el, g1, g2, g3, g4, g5, g6⟩ := hf.var _ _ h1
    rw [h2] at g1
    injection g1 with g1; injection g1 with g1; injection g1 with g1; injection g1 with g1
    subst g1
    obtain ⟨hr', hle⟩ := hreps hset g5
    have harr : arr.size = cs.length := by have := g5.1; simp at this; omega
    obtain ⟨arr', hrun, hl'⟩ := run_storeVar (P := P) hk hsz hone g3 (show o + k ≤ arr.size by omega)
    refine ⟨_, hrun, ?_, fun b h => h, rfl, rfl⟩
    -- the world outside this variable is as it was
    have hlt := heap_lt g3
    have hinv : HInv Γ L s.H s.next (setBlk w r (.cells arr' el (0, 0))) := hf.heap.frame (Imm.le_refl _) (fun r1 gs hg1 => by
        have hne : r1 ≠ r := by intro e; subst e; rw [g4] at hg1; cases hg1
        rw [setBlk_other hne]; exact hf.heap.imm r1 gs hg1) (fun b r1 hb => by
        have hne : r1 ≠ r := by intro e; subst e; exact g6 b hb
        exact ⟨setBlk_other hne, rfl⟩)
    have hE : ∀ t1, t1 ≠ t' → upd s.E t' (.var cs') t1 = s.E t1 := fun t1 h => upd_other h
    refine ⟨⟨hf.size, hinv, fun t1 v1 ht => ?_, fun t1 cs1 ht => ?_, fun t1 t2 cs1 cs2 r1 ht1 ht2 k1 k2 => ?_, fun t1 t2 o1 ht => ?_⟩, ?_⟩
    · have hne : t1 ≠ t' := by intro e; subst e; simp [upd] at ht
      exact hf.val t1 v1 (by rw [← hE t1 hne]; exact ht)
    · by_cases hne : t1 = t'
      · subst hne
        simp only [upd, if_true, Slot.var.injEq] at ht
        subst ht
        exact ⟨r, arr', el, h2, g2, setBlk_same hlt, g4, by rw [hl']; exact hr', g6⟩
      · have ht' : s.E t1 = .var cs1 := by rw [← hE t1 hne]; exact ht
        obtain ⟨r1, arr1, el1, k1, k2, k3, k4⟩ := hf.var t1 cs1 ht'
        have hner : r1 ≠ r := by intro e; subst e; exact hne (hf.varInj t1 t' cs1 cs r1 ht' h1 k1 h2)
        exact ⟨r1, arr1, el1, k1, k2, by rw [setBlk_other hner]; exact k3, k4⟩
    · have var' : ∀ t1 cs1, upd s.E t' (.var cs') t1 = .var cs1 → ∃ cs0, s.E t1 = .var cs0 := by
        intro t1 cs1 h
        by_cases hne : t1 = t'
        · subst hne; exact ⟨cs, h1⟩
        · exact ⟨cs1, by rw [← hE t1 hne]; exact h⟩
      obtain ⟨q1, hq1⟩ := var' t1 cs1 ht1
      obtain ⟨q2, hq2⟩ := var' t2 cs2 ht2
      exact hf.varInj t1 t2 q1 q2 r1 hq1 hq2 k1 k2
    · have hne : t1 ≠ t' := by intro e; subst e; simp [upd] at ht
      obtain ⟨cs1, r1, k1, k2, k3⟩ := hf.lref t1 t2 o1 (by rw [← hE t1 hne]; exact ht)
      by_cases hne2 : t2 = t'
      · subst hne2
        exact ⟨cs', r1, by simp [upd], k2, k3⟩
      · exact ⟨cs1, r1, by show upd s.E t' (.var cs') t2 = _; rw [hE t2 hne2]; exact k1, k2, k3⟩
    · have hs := hg.since
      refine ⟨hs.imm, hs.locs, hs.os, hs.tape, hs.output, by simpa using hs.size, fun r1 hr1 hn => ?_, hs.low, hs.dead, hs.own, hs.floor, hs.next⟩
      rw [setBlk_other (show r1 ≠ r by omega)]
      exact hs.block r1 hr1 hn
  | ref b o' =>
    obtain ⟨r', h1, h3⟩ := hA
    injection h3 with h3; injection h3 with h3; injection h3 with h3 h4
    subst h3; subst h4
    simp only [AV.put] at hp
    split at hp
    · rename_i cs hb
      split at hp
      · rename_i hfl
        simp only [Option.bind_eq_some_iff, Option.some.injEq] at hp
        obtain ⟨cs', hset, rfl⟩ := hp
        obtain ⟨r', arr, el, t1, e1, hw, hg', ht, hr⟩ := hf.heap.cells b cs hb
        rw [h1] at e1; injection e1 with e1; subst e1
        obtain ⟨hr', hle⟩ := hreps hset hr
        have hlen : cs.length ≤ arr.size := by have := hr.1; simp at this; omega
        obtain ⟨arr', hrun, hl'⟩ := run_storeVar (P := P) hk hsz hone hw (show o + k ≤ arr.size by omega)
        have hspl : arr'.toList = (arr.toList.take cs.length).take o ++ (a.eval Y).cells.toList ++ (arr.toList.take cs.length).drop (o + k) ++ t1 := by
          rw [hl']
          have : arr.toList.drop (o + k) = (arr.toList.take cs.length).drop (o + k) ++ t1 := by
            conv => lhs; rw [ht]
            rw [List.drop_append_of_le_length (by simp; omega)]
          rw [this, List.take_take, Nat.min_eq_left (by omega)]
          simp
        have harr : Obj.cells arr' el (0, 0) = .cells ((arr.toList.take cs.length).take o ++ (a.eval Y).cells.toList ++ (arr.toList.take cs.length).drop (o + k) ++ t1).toArray el (0, 0) := by
          rw [← hspl]
        obtain ⟨hi, hs⟩ := write_blk (floor := s.floor) (base := base) hf.heap (id := b) (r := r) (by simp [real, hb, h1]) hfl hbn hb (b' := .cells cs') (o := .cells arr' el (0, 0)) (.inl ⟨cs, cs', _, t1, el, rfl, rfl, harr, hr'⟩)
        refine ⟨_, hrun, hg.heap hi hs hcb, fun b1 hf1 => ?_, rfl, rfl⟩
        have hne : b1 ≠ b := by intro e; subst e; rw [hf1.1] at hb; cases hb
        exact ⟨by show upd s.H b _ b1 = none; rw [upd_other hne]; exact hf1.1, hf1.2⟩
      · cases hp
    · cases hp
  | imm cs => simp [AV.put] at hp

end
end Go.Abs
