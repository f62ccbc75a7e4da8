/-
  THE OPERATIONS THAT MAKE A VALUE: what the model's operation comes to stands for what the abstract one comes to.
-/
import Derived.Test.YtagmcgbbgjkdbaaAbs3
set_option linter.all false
namespace Go.Abs
open Go

/-- New blocks that stay, and nothing else. -/
structure Ext0 (Γ : Imm) (w : World) (Γ' : Imm) (w' : World) : Prop where
  imm : Γ.le Γ'
  os : w'.os = w.os
  tape : w'.tape = w.tape
  output : w'.output = w.output
  size : w.heap.size ≤ w'.heap.size
  block : ∀ r, r < w.heap.size → w'.heap[r]? = w.heap[r]? ∧ Γ' r = Γ r
  good : ∀ r gs, Γ' r = some gs → ∃ arr el fz, w'.heap[r]? = some (.cells arr el fz) ∧ ∃ t, arr.toList = gs ++ t

section
variable {P : Program} {B n : Nat} {Γ : Imm} {L : Locs} {s : St} {a : Act} {w : World}

theorem Ext0.refl (hf : HInv Γ L s.H s.next w) : Ext0 Γ w Γ w := ⟨Imm.le_refl _, rfl, rfl, rfl, Nat.le_refl _, fun _ _ => ⟨rfl, rfl⟩, hf.imm⟩

theorem run_value {m : Sem Value} {x : Value} {w' : World} (h : m.run P w = .ok x w') : ((do pure (Next.value (← m))) : Sem Next).run P w = .ok (.value x) w' := by
  simp [h]

def VOK (P : Program) (Γ : Imm) (L : Locs) (w : World) (m : Sem Value) (v : V) : Prop :=
  ∃ x w' Γ', m.run P w = .ok x w' ∧ Ext0 Γ w Γ' w' ∧ Rep Γ' L v x

theorem VOK.here {m : Sem Value} {v : V} {x : Value} (hf : HInv Γ L s.H s.next w) (h : m.run P w = .ok x w) (hr : Rep Γ L v x) : VOK P Γ L w m v := ⟨x, w, Γ, h, .refl hf, hr⟩

theorem tSize_spec {t : TypeId} {k : Nat} (h : tSize P t k = true) : ∃ i, P.info? t = some i ∧ i.size = k := by
  unfold tSize at h
  split at h
  · rename_i i hi; exact ⟨i, hi, of_decide_eq_true h⟩
  · cases h

theorem run_size {t : TypeId} {k : Nat} (h : tSize P t k = true) (w : World) : (sizeOf t).run P w = .ok k w := by
  obtain ⟨i, hi, rfl⟩ := tSize_spec h
  simp [sizeOf, typeInfo, hi]

theorem run_isAgg' {t : TypeId} {agg : Bool} (h : tAgg P t agg = true) (w : World) : (isAgg t).run P w = .ok agg w := by
  unfold tAgg at h
  split at h
  · rename_i hu; subst h; simp [isAgg, run_underlying hu]
  · rename_i hu; subst h; simp [isAgg, run_underlying hu]
  · rename_i d h1 h2 hu
    have : agg = false := by simpa using h
    subst this
    cases d <;> first | (exact (h1 _ rfl).elim) | (exact (h2 _ _ rfl).elim) | simp [isAgg, run_underlying hu]
  · cases h

theorem addr_add (r o k : Nat) : (⟨r, o, none⟩ : Addr).add k = ⟨r, o + k, none⟩ := by
  unfold Addr.add
  split
  · rename_i h; subst h; rfl
  · rfl

theorem run_cells {r o : Nat} {xs : List Value} (h : ∀ j x, xs[j]? = some x → w.cell? ⟨r, o + j, none⟩ = some x) :
    (loadCells ⟨r, o, none⟩ xs.length).run P w = .ok xs.toArray w :=
  run_loadCells_list (P := P) w (⟨r, o, none⟩ : Addr) xs fun j v hj => by rw [addr_add]; exact h j v hj

theorem asVal_rep {agg : Bool} {cs : List V} {v : V} {xs : List Value} (h : asVal agg cs = some v) (hr : Reps Γ L cs xs) :
    if agg then Rep Γ L v (.agg xs.toArray) else ∃ x, xs = [x] ∧ Rep Γ L v x := by
  cases cs with
  | nil =>
    cases agg <;> simp [asVal] at h
    subst h; exact Rep.agg' hr
  | cons c cs =>
    cases cs with
    | nil =>
      simp only [asVal, Option.some.injEq] at h
      cases agg
      · simp only [Bool.false_eq_true, if_false] at h ⊢
        subst h; exact hr.inv_one
      · simp only [if_true] at h ⊢
        subst h; exact Rep.agg' hr
    | cons d cs =>
      cases agg <;> simp [asVal] at h
      subst h; exact Rep.agg' hr

/-- 'load' -/
theorem load_here (hf : FInv B n Γ L s a.tmps w) {agg : Bool} {k : Nat} {t : TypeId} {x : Opd} {X : Operand} {av : AV} {v : V} {out : List V}
    (hagg : tAgg P t agg = true) (hk : tSize P t k = true) (hx : okOpd x X = true) (ha : addrOf s.E x = some av) (hg : av.get s.E s.H k = some out) (hv : asVal agg out = some v) :
    ∃ x, (Instr.loadAt t (a.eval X)).run P w = .ok x w ∧ Rep Γ L v x := by
  have hA := addr_ok hf hx ha
  obtain ⟨r, o, e⟩ := aok_ptr hA
  rw [e] at hA ⊢
  obtain ⟨xs, hl, hr, hc⟩ := av_get hf hA hg
  have hv' := asVal_rep hv hr
  have hrun := run_cells (P := P) hc
  rw [hl] at hrun
  cases agg
  · simp only [Bool.false_eq_true, if_false] at hv'
    obtain ⟨y, hy, hry⟩ := hv'
    subst hy
    refine ⟨y, ?_, hry⟩
    have h0 := hc 0 y rfl
    rw [Nat.add_zero] at h0
    simp [Instr.loadAt, Instr.sureAddr, loadVar, run_isAgg' hagg, h0]
  · simp only [if_true] at hv'
    refine ⟨_, ?_, hv'⟩
    simp [Instr.loadAt, Instr.sureAddr, loadVar, run_isAgg' hagg, run_size hk, hrun]

theorem ok_load (hf : FInv B n Γ L s a.tmps w) {agg : Bool} {k : Nat} {t : TypeId} {x : Opd} {X : Operand} {av : AV} {v : V} {out : List V}
    (hagg : tAgg P t agg = true) (hk : tSize P t k = true) (hx : okOpd x X = true) (ha : addrOf s.E x = some av) (hg : av.get s.E s.H k = some out) (hv : asVal agg out = some v) :
    VOK P Γ L w (Instr.loadAt t (a.eval X)) v := by
  obtain ⟨x, h1, h2⟩ := load_here (P := P) hf hagg hk hx ha hg hv
  exact .here hf.heap h1 h2

theorem part_ok {agg : Bool} {t : TypeId} {cs : List V} {xs : List Value} {off k : Nat} {out : List V} {v : V} (hagg : tAgg P t agg = true) (hk : tSize P t k = true)
    (hr : Reps Γ L cs xs) (hg : getCells cs off k = some out) (hv : asVal agg out = some v) : ∃ x, (part t xs.toArray off).run P w = .ok x w ∧ Rep Γ L v x := by
  obtain ⟨h1, rfl⟩ := getCells_spec hg
  have hr' : Reps Γ L ((cs.drop off).take k) ((xs.drop off).take k) := (hr.drop off).take k
  have hv' := asVal_rep hv hr'
  cases agg
  · simp only [Bool.false_eq_true, if_false] at hv'
    obtain ⟨y, hy, hry⟩ := hv'
    refine ⟨y, ?_, hry⟩
    have h0 : ((xs.drop off).take k)[0]? = some y := by rw [hy]; rfl
    rw [List.getElem?_take] at h0
    split at h0
    · rw [List.getElem?_drop, Nat.add_zero] at h0
      simp [part, run_isAgg' hagg, h0]
    · cases h0
  · simp only [if_true] at hv'
    refine ⟨_, ?_, hv'⟩
    simp only [part, Sem.run_bind, run_isAgg' hagg, Result.andThen_ok, if_true, run_size hk, Sem.run_pure, Result.ok.injEq, Value.agg.injEq, and_true]
    apply Array.ext'
    simp [List.extract_eq_take_drop, List.take_drop]

theorem ok_field (hf : FInv B n Γ L s a.tmps w) {agg : Bool} {off k f : Nat} {st t : TypeId} {x : Opd} {X : Operand} {cs : List V} {v : V} {out : List V}
    (ht : tField P st f off k = some t) (hagg : tAgg P t agg = true) (hx : okOpd x X = true) (hc : x.eval s.E = some (.agg cs)) (hg : getCells cs off k = some out) (hv : asVal agg out = some v) :
    VOK P Γ L w (Instr.field st (a.eval X) f) v := by
  obtain ⟨xs, e, hr⟩ := (opd_rep hf hx hc).inv_agg
  rw [e]
  unfold tField at ht
  split at ht
  · rename_i fs hu
    split at ht
    · rename_i fd hfd
      split at ht
      · rename_i hcond
        injection ht with ht
        subst ht
        obtain ⟨rfl, hk⟩ := hcond
        obtain ⟨y, hy, hry⟩ := part_ok (P := P) (w := w) hagg hk hr hg hv
        refine .here hf.heap ?_ hry
        simp [Instr.field, run_underlying hu, hfd, asAgg, hy]
      · cases ht
    · cases ht
  · cases ht

theorem tArr_spec {t e : TypeId} {len sz : Nat} (h : tArr P t len sz = some e) : P.underlying t = some (.array len e) ∧ tSize P e sz = true := by
  unfold tArr at h
  split at h
  · rename_i m e' hu
    split at h
    · rename_i hc; injection h with h; subst h; obtain ⟨rfl, h2⟩ := hc; exact ⟨hu, h2⟩
    · cases h
  · cases h

theorem tElem_spec {t e : TypeId} {sz : Nat} (h : tElem P t sz = some e) : P.underlying t = some (.slice e) ∧ tSize P e sz = true := by
  unfold tElem at h
  split at h
  · rename_i e' hu
    split at h
    · rename_i hc; injection h with h; subst h; exact ⟨hu, hc⟩
    · cases h
  · cases h

theorem idx_spec {v : V} {k i : Nat} (h : idx? v k = some i) : ∃ ik, v = .int ik (i : Int) ∧ i < k := by
  cases v <;> simp only [idx?, reduceCtorEq] at h
  rename_i ik m
  split at h
  · rename_i hc; injection h with h; subst h; exact ⟨ik, by rw [Int.toNat_of_nonneg hc.1], by omega⟩
  · cases h

theorem ok_idxA (hf : FInv B n Γ L s a.tmps w) {agg : Bool} {len sz i : Nat} {t e : TypeId} {x j : Opd} {X J : Operand} {cs : List V} {iv v : V} {out : List V}
    (ht : tArr P t len sz = some e) (hagg : tAgg P e agg = true) (hx : okOpd x X = true) (hj : okOpd j J = true) (hc : x.eval s.E = some (.agg cs)) (hi : j.eval s.E = some iv)
    (hn : idx? iv len = some i) (hg : getCells cs (i * sz) sz = some out) (hv : asVal agg out = some v) : VOK P Γ L w (Instr.index t (a.eval X) (a.eval J)) v := by
  obtain ⟨xs, e1, hr⟩ := (opd_rep hf hx hc).inv_agg
  obtain ⟨ik, rfl, hlt⟩ := idx_spec hn
  rw [e1, (opd_rep hf hj hi).inv_int]
  obtain ⟨hu, hsz⟩ := tArr_spec ht
  obtain ⟨y, hy, hry⟩ := part_ok (P := P) (w := w) hagg hsz hr hg hv
  refine .here hf.heap ?_ hry
  have hc : (0 : Int) ≤ (i : Int) ∧ (i : Int) < (len : Int) := by omega
  simp [Instr.index, asIntOf, run_underlying hu, hlt, run_size hsz, hy]

theorem ok_idxS (hf : FInv B n Γ L s a.tmps w) {i : Nat} {t : TypeId} {x j : Opd} {X J : Operand} {b : List UInt8} {iv : V} {c : UInt8}
    (ht : P.underlying t = some .string) (hx : okOpd x X = true) (hj : okOpd j J = true) (hb : x.eval s.E = some (.str b)) (hi : j.eval s.E = some iv)
    (hn : idx? iv b.length = some i) (hg : b[i]? = some c) : VOK P Γ L w (Instr.index t (a.eval X) (a.eval J)) (.int .u8 c.toNat) := by
  obtain ⟨ba, e1, hr⟩ := (opd_rep hf hx hb).inv_str
  obtain ⟨ik, rfl, hlt⟩ := idx_spec hn
  rw [e1, (opd_rep hf hj hi).inv_int]
  refine .here hf.heap ?_ (.int _ _)
  have hget : ba[i]? = some c := by
    subst hr
    have hs : i < ba.size := by simpa using hlt
    have hd : ba[i]? = some ba[i] := getElem?_pos ba i hs
    rw [hd]
    have : ba.data.toList[i]? = some ba[i] := by
      rw [Array.getElem?_toList, Array.getElem?_eq_getElem (by simpa using hs)]; rfl
    rw [this] at hg
    exact hg
  simp [Instr.index, asIntOf, run_underlying ht, hget]

theorem ok_extract (hf : FInv B n Γ L s a.tmps w) {i : Nat} {x : Opd} {X : Operand} {vs : List V} {v : V} (hx : okOpd x X = true) (hc : x.eval s.E = some (.tup vs)) (hg : vs[i]? = some v) :
    VOK P Γ L w (Instr.extract (a.eval X) i) v := by
  obtain ⟨xs, e1, hr⟩ := (opd_rep hf hx hc).inv_tup
  rw [e1]
  obtain ⟨y, hy, hry⟩ := hr.get hg
  refine .here hf.heap ?_ hry
  simp [Instr.extract, hy]

theorem ok_conv (hf : FInv B n Γ L s a.tmps w) {k k' : IntKind} {m : Int} {src dst : TypeId} {x : Opd} {X : Operand} {d : TypeDesc} (h1 : P.underlying src = some d) (h2 : P.underlying dst = some (.int k))
    (hx : okOpd x X = true) (hc : x.eval s.E = some (.int k' m)) : VOK P Γ L w (convert src dst (a.eval X)) (.int k (k.wrap m)) := by
  rw [(opd_rep hf hx hc).inv_int]
  refine .here hf.heap ?_ (.int _ _)
  simp [convert, run_underlying h1, run_underlying h2, Conv.intToInt]

theorem ok_un (hf : FInv B n Γ L s a.tmps w) {op : UnOp} {x : Opd} {X : Operand} {v u : V} (hx : okOpd x X = true) (hc : x.eval s.E = some v) (hu : unV op v = some u) : VOK P Γ L w (Op.unary op (a.eval X)) u := by
  have hr := opd_rep hf hx hc
  cases op <;> cases v <;> simp only [unV, reduceCtorEq, Option.some.injEq] at hu
  all_goals subst hu
  · rw [hr.inv_int]
    exact .here hf.heap (by simp [Op.unary, Op.intArith]) (.int _ _)
  · rw [hr.inv_bool]
    exact .here hf.heap (by simp [Op.unary]) (.bool _)

theorem ok_pick (hf : FInv B n Γ L s a.tmps w) {c : Bool} {x y z : Opd} {X Y Z : Operand} {v : V} (hx : okOpd x X = true) (hy : okOpd y Y = true) (hz : okOpd z Z = true)
    (hc : x.eval s.E = some (.bool c)) (hv : (if c then y.eval s.E else z.eval s.E) = some v) : ∃ u, (execOp a.eval ⟨none, .pick X Y Z, 0, "", #[], none⟩).run P w = .ok (.value u) w ∧ Rep Γ L v u := by
  have e := (opd_rep hf hx hc).inv_bool
  cases c
  · exact ⟨a.eval Z, by simp [execOp, e, asBool], opd_rep hf hz (by simpa using hv)⟩
  · exact ⟨a.eval Y, by simp [execOp, e, asBool], opd_rep hf hy (by simpa using hv)⟩

end
end Go.Abs
