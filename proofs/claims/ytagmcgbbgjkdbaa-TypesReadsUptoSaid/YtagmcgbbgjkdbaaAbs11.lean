/-
  append.
-/
import Derived.Test.YtagmcgbbgjkdbaaAbs10
set_option linter.all false
namespace Go.Abs
open Go

section
variable {P : Program} {B n : Nat} {Γ Γ' : Imm} {L L' : Locs} {s : St} {a : Act} {w w' : World} {H H' : Nat → Option Blk} {next next' base floor : Nat} {c : Ctx}

theorem cell_heap (hw : w'.heap = w.heap) (ad : Addr) : w'.cell? ad = w.cell? ad := by simp [World.cell?, hw]

theorem flatten_chunks (sz : Nat) : ∀ (k : Nat) (cs : List V), cs.length = k * sz → (chunks sz k cs).flatten = cs
  | 0, cs, h => by
    have : cs = [] := List.eq_nil_of_length_eq_zero (by simpa using h)
    subst this; rfl
  | k + 1, cs, h => by
    rw [Nat.succ_mul] at h
    simp only [chunks, List.flatten_cons]
    rw [flatten_chunks sz k (cs.drop sz) (by simp; omega), List.take_append_drop]

theorem flatten_length {sz : Nat} : ∀ {es : List (List V)}, (∀ e ∈ es, e.length = sz) → es.flatten.length = es.length * sz
  | [], _ => by simp
  | e :: es, h => by
    rw [List.flatten_cons, List.length_append, h e (by simp), flatten_length (fun e he => h e (by simp [he])), List.length_cons, Nat.succ_mul, Nat.add_comm]

/-- The cells of a slice that stays. -/
theorem list_cells (hi : HInv Γ L H next w) {p : Perm} {es : List (List V)} {x : Value} (hr : Rep Γ L (.list p es) x) {sz : Nat} (hd : headLen sz es = true) :
    ∃ xs, xs.length = es.length * sz ∧ Reps Γ L es.flatten xs ∧ ∀ w' : World, w'.heap = w.heap → (Builtin.firstCells sz es.length x).run P w' = .ok xs.toArray w' := by
  obtain ⟨ad, cap, sz', gs, vals, rfl, h1, h2, h3, h4, h5, _, _⟩ := hr.inv_list
  by_cases hne : es = []
  · subst hne
    refine ⟨[], by simp, .nil, fun w' hw' => ?_⟩
    cases ad with
    | none => simp [Builtin.firstCells]
    | some ad => simp [Builtin.firstCells, loadCells, loadCellsFrom]
  · have hs := headLen_spec hd h1 hne
    subst hs
    obtain ⟨ad', rfl, hsp, hg⟩ := h2 hne
    obtain ⟨blk, off, spot⟩ := ad'
    simp only at hsp hg
    subst hsp
    have hfl := flatten_length h1
    have hget : ∀ j c, es.flatten[j]? = some c → gs[off + j]? = some (vals (j / sz') (j % sz')) ∧ Rep Γ L c (vals (j / sz') (j % sz')) := by
      intro j c hj
      obtain ⟨i, k, e, rfl, hi, hk⟩ := flatten_get (sz := sz') h1 hj
      have hk' : k < sz' := by rw [← h1 e (List.mem_of_getElem? hi)]; exact (List.getElem?_eq_some_iff.1 hk).1
      have e1 : (i * sz' + k) / sz' = i := by
        rw [Nat.mul_comm, Nat.mul_add_div (by omega), Nat.div_eq_of_lt hk', Nat.add_zero]
      have e2 : (i * sz' + k) % sz' = k := by
        rw [Nat.mul_comm, Nat.mul_add_mod, Nat.mod_eq_of_lt hk']
      rw [e1, e2, ← Nat.add_assoc]
      exact ⟨h3 _ rfl i k e c hi hk, h4 i k e c hi hk⟩
    obtain ⟨arr, el, fz, hw, t, ht⟩ := hi.imm _ _ hg
    refine ⟨(List.range (es.length * sz')).map fun j => vals (j / sz') (j % sz'), by simp, ⟨by simp [hfl], fun j c x hc hx => ?_⟩, ?_⟩
    · have hj : j < es.length * sz' := by rw [← hfl]; exact (List.getElem?_eq_some_iff.1 hc).1
      rw [List.getElem?_map, List.getElem?_range hj] at hx
      injection hx with hx
      subst hx
      exact (hget j c hc).2
    · intro w' hw'
      have hrun := run_cells (P := P) (w := w') (r := blk) (o := off) (xs := (List.range (es.length * sz')).map fun j => vals (j / sz') (j % sz')) (fun j x hx => by
        have hj : j < es.length * sz' := by have := (List.getElem?_eq_some_iff.1 hx).1; simpa using this
        rw [List.getElem?_map, List.getElem?_range hj] at hx
        injection hx with hx
        subst hx
        obtain ⟨c, hc⟩ : ∃ c, es.flatten[j]? = some c := ⟨es.flatten[j]'(by omega), List.getElem?_eq_getElem _⟩
        rw [cell_heap hw', cell_at hw, ← Array.getElem?_toList, ht]
        exact get_append (hget j c hc).1)
      simp only [List.length_map, List.length_range] at hrun
      simp only [Builtin.firstCells]
      exact hrun

/-- What is appended. -/
theorem elems_cells (hf : FInv B n Γ L s a.tmps w) {y : Opd} {Y : Operand} {v : V} {sz : Nat} {new : List (List V)} (hy : okOpd y Y = true) (hv : y.eval s.E = some v) (he : elemsOf s.H sz v = some new) (hd : headLen sz new = true) :
    (Builtin.lenOf (a.eval Y)).run P w = .ok new.length w ∧ ∃ xs, xs.length = new.length * sz ∧ Reps Γ L new.flatten xs ∧ ∀ w' : World, w'.heap = w.heap → (Builtin.firstCells sz new.length (a.eval Y)).run P w' = .ok xs.toArray w' := by
  have hr := opd_rep hf hy hv
  cases v <;> simp only [elemsOf, reduceCtorEq, Option.some.injEq] at he
  · rename_i b
    subst he
    obtain ⟨ba, e, rfl⟩ := hr.inv_str
    rw [e]
    refine ⟨by simp [Builtin.lenOf], ba.data.toList.map fun b => .int .u8 b.toNat, ?_, ?_, ?_⟩
    · cases hb : ba.data.toList with
      | nil => simp
      | cons p q =>
        rw [hb] at hd
        simp only [List.map_cons, headLen, List.length_cons, List.length_nil, beq_iff_eq] at hd
        subst hd
        simp
    · have : (ba.data.toList.map fun b => [V.int .u8 b.toNat]).flatten = ba.data.toList.map fun b => V.int .u8 b.toNat := by
        induction ba.data.toList <;> simp_all
      rw [this]
      refine ⟨by simp, fun j c x hc hx => ?_⟩
      rw [List.getElem?_map, Option.map_eq_some_iff] at hc hx
      obtain ⟨p, hp, rfl⟩ := hc
      obtain ⟨q, hq, rfl⟩ := hx
      rw [hp] at hq; injection hq with hq; subst hq
      exact .int _ _
    · intro w' hw'
      simp only [Builtin.firstCells, List.length_map, Sem.run_pure, Result.ok.injEq, and_true]
      apply Array.ext'
      simp [List.take_of_length_le]
  · subst he
    refine ⟨?_, list_cells hf.heap hr hd⟩
    obtain ⟨ad, cap, sz', gs, vals, e, _⟩ := hr.inv_list
    rw [e]
    simp [Builtin.lenOf]
  · rename_i b off sz' k
    split at he
    · rename_i hs
      subst hs
      split at he
      · rename_i cs hb
        rw [Option.bind_eq_some_iff] at he
        obtain ⟨cells, hg, he⟩ := he
        injection he with he
        subst he
        cases hX : a.eval Y <;> rw [hX] at hr <;> cases hr
        rename_i ad cap r hbl ha hcap
        have hlen := getCells_length hg
        rw [chunks_length, flatten_chunks _ _ _ hlen]
        refine ⟨by simp [Builtin.lenOf], ?_⟩
        by_cases hk : k = 0
        · subst hk
          have : cells = [] := List.eq_nil_of_length_eq_zero (by simpa using hlen)
          subst this
          refine ⟨[], by simp, .nil, fun w' hw' => ?_⟩
          cases ad with
          | none => simp [Builtin.firstCells]
          | some ad => simp [Builtin.firstCells, loadCells, loadCellsFrom]
        · rw [ha hk]
          obtain ⟨xs, hl, hr', hc⟩ := av_get hf (v := .ref b off) (r := r) (o := off) (k := k * sz') (out := cells) ⟨r, hbl, rfl⟩ (by simp [AV.get, hb, hg])
          refine ⟨xs, hl, hr', fun w' hw' => ?_⟩
          have := run_cells (P := P) (w := w') (fun j x hj => by rw [cell_heap hw']; exact hc j x hj)
          rw [hl] at this
          simpa [Builtin.firstCells] using this
      · cases he
    · cases he

theorem nextcap_le {need cap bytes : Nat} (hb : bytes ≤ 4096) (hn : need ≤ room) (hc : cap < need) : Builtin.nextslicecap need cap * bytes ≤ 2 ^ 48 := by
  have grow : ∀ (k c : Nat), c < need → Builtin.growBy need k c ≤ need + need / 4 + 200 := by
    intro k
    induction k with
    | zero => intro c hc; simp only [Builtin.growBy]; omega
    | succ k ih =>
      intro c hc
      simp only [Builtin.growBy]
      rw [if_neg (by omega)]
      by_cases h : c + (c + 768) / 4 < need
      · exact ih _ h
      · cases k with
        | zero => simp only [Builtin.growBy]; omega
        | succ k => simp only [Builtin.growBy]; rw [if_pos (by omega)]; omega
  have h1 : Builtin.nextslicecap need cap ≤ need + need / 4 + 600 := by
    unfold Builtin.nextslicecap
    split
    · omega
    · split
      · omega
      · have := grow 4 cap hc; omega
  unfold room at hn
  calc Builtin.nextslicecap need cap * bytes ≤ (need + need / 4 + 600) * 4096 := Nat.mul_le_mul h1 hb
    _ ≤ 2 ^ 48 := by omega

/-- 'append' where nothing is appended -/
theorem run_append_none {t u e : TypeId} {sz sLen sCap : Nat} {base : Option Addr} {x : Value} {rt : TypeId} (hu : P.underlying t = some (.slice e)) (hs : tSize P e sz = true) (hz : (∃ e', P.underlying u = some (.slice e')) ∨ P.underlying u = some .string)
    (hcap : sLen ≤ sCap) (hn : (Builtin.lenOf x).run P w = .ok 0 w) (hc : (Builtin.firstCells sz 0 x).run P w = .ok #[] w) :
    (Builtin.append_ #[t, u] rt #[.slice base sLen sCap, x]).run P w = .ok (.slice base sLen sCap) w := by
  rcases hz with ⟨e', hd⟩ | hd
  all_goals
    unfold Builtin.append_
    simp only [List.getElem?_toArray, List.getElem?_cons_zero, List.getElem?_cons_succ, Sem.run_bind, run_underlying hu, run_underlying hd, Result.andThen_ok, run_size hs, Sem.run_pure, Bool.false_eq_true, if_false, hn, Nat.add_zero, hcap, if_true, Bool.not_false, hc]
    cases base <;> simp [storeCells]

/-- 'append' within the room -/
theorem run_append_room {t u e : TypeId} {sz sLen sCap m r off : Nat} {x : Value} {rt : TypeId} {xs : List Value} {arr : Array Value} {el : TypeId} (hu : P.underlying t = some (.slice e)) (hs : tSize P e sz = true) (hz : (∃ e', P.underlying u = some (.slice e')) ∨ P.underlying u = some .string)
    (hcap : sLen + m ≤ sCap) (hn : (Builtin.lenOf x).run P w = .ok m w) (hc : (Builtin.firstCells sz m x).run P w = .ok xs.toArray w) (hxs : xs.length = m * sz) (ho : ∀ v ∈ xs, v.oneCell' = true)
    (hw : w.heap[r]? = some (.cells arr el (0, 0))) (hl : off + (sLen + m) * sz ≤ arr.size) :
    ∃ arr' : Array Value, (Builtin.append_ #[t, u] rt #[.slice (some ⟨r, off, none⟩) sLen sCap, x]).run P w = .ok (.slice (some ⟨r, off, none⟩) (sLen + m) sCap) (setBlk w r (.cells arr' el (0, 0))) ∧
      arr'.toList = arr.toList.take (off + sLen * sz) ++ xs ++ arr.toList.drop (off + sLen * sz + m * sz) := by
  rw [Nat.add_mul] at hl
  obtain ⟨arr', h1, h2⟩ := run_storeCells (P := P) (r := r) (off := off + sLen * sz) (el := el) xs 0 w arr hw (by omega) ho
  refine ⟨arr', ?_, by rw [h2, hxs]; simp⟩
  rcases hz with ⟨e', hd⟩ | hd
  all_goals
    unfold Builtin.append_
    simp only [List.getElem?_toArray, List.getElem?_cons_zero, List.getElem?_cons_succ, Sem.run_bind, run_underlying hu, run_underlying hd, Result.andThen_ok, run_size hs, Sem.run_pure, Bool.false_eq_true, if_false, hn, hcap, if_true, Bool.not_false, hc, addr_add, h1]

/-- 'append' that makes a new block -/
theorem run_append_new {t u e : TypeId} {sz sLen sCap m : Nat} {base : Option Addr} {x : Value} {rt : TypeId} {xs old : List Value} {ie : TypeInfo} {z : Value} (hu : P.underlying t = some (.slice e)) (hs : tSize P e sz = true) (hz : (∃ e', P.underlying u = some (.slice e')) ∨ P.underlying u = some .string)
    (hie : P.info? e = some ie) (hb : ie.bytes ≤ 4096) (hzero : ie.zero = some z) (hzs : z.cells.size = sz)
    (hcap : ¬ sLen + m ≤ sCap) (hroom : sLen + m ≤ room) (hn : (Builtin.lenOf x).run P w = .ok m w) (hc : ∀ w' : World, w'.heap = w.heap → (Builtin.firstCells sz m x).run P w' = .ok xs.toArray w') (hxs : xs.length = m * sz)
    (hold : ∀ w' : World, w'.heap = w.heap → (Builtin.firstCells sz sLen (.slice base sLen sCap)).run P w' = .ok old.toArray w') (hol : old.length = sLen * sz) :
    ∃ (cap : Nat) (rest : List Value), sLen + m ≤ cap ∧ rest.length = (cap - (sLen + m)) * sz ∧
      (Builtin.append_ #[t, u] rt #[.slice base sLen sCap, x]).run P w = .ok (.slice (some ⟨w.heap.size, 0, none⟩) (sLen + m) cap) (pushBlk { w with drawn := w.drawn + 1 } (.cells (old ++ xs ++ rest).toArray e)) := by
  have hbig : ¬ (((sLen + m : Nat) : Int) > IntKind.i64.max ∧ (False ∨ ie.bytes = 0)) := by
    rintro ⟨h1, _⟩
    unfold room at hroom
    simp only [IntKind.max, IntKind.signed, IntKind.bits] at h1
    omega
  have hnc : ¬ (Builtin.nextslicecap (sLen + m) sCap * ie.bytes > 2 ^ 48) := by
    have := nextcap_le hb hroom (show sCap < sLen + m by omega)
    omega
  let w1 : World := { w with drawn := w.drawn + 1 }
  let cap := (Question.appendCap (sLen + m) sCap e).cut (w.tape w.drawn (.appendCap (sLen + m) sCap e))
  have hcap' : sLen + m ≤ cap := by simp only [cap, Question.cut]; omega
  refine ⟨cap, (Builtin.zeroCells z.cells (cap - (sLen + m))).toList, hcap', by simp [Builtin.zeroCells, hzs], ?_⟩
  have hch : (choose (.appendCap (sLen + m) sCap e)).run P w = .ok cap w1 := by simp [Question.forced, cap, w1]
  have hti : ∀ w : World, (typeInfo e).run P w = .ok ie w := by intro w; simp [typeInfo, hie]
  have hzv : ∀ w : World, (zeroValue e).run P w = .ok z w := by intro w; simp [zeroValue, typeInfo, hie, hzero]
  have e1 : old.toArray ++ xs.toArray ++ Builtin.zeroCells z.cells (cap - (sLen + m)) = (old ++ xs ++ (Builtin.zeroCells z.cells (cap - (sLen + m))).toList).toArray := by
    apply Array.ext'; simp
  have hno : ¬ ((((sLen + m : Nat) : Int) > IntKind.i64.max) ∧ (false = true ∨ ie.bytes = 0)) := by
    rintro ⟨h1, h2⟩
    exact hbig ⟨h1, by simpa using h2⟩
  rcases hz with ⟨e', hd⟩ | hd
  all_goals
    unfold Builtin.append_
    simp only [List.getElem?_toArray, List.getElem?_cons_zero, List.getElem?_cons_succ, Sem.run_bind, run_underlying hu, run_underlying hd, Result.andThen_ok, run_size hs, Sem.run_pure, hn, if_neg hcap, Bool.false_eq_true, if_false, hti, if_neg hbig, if_neg hnc]
    simp only [Sem.run_bind, hti, Result.andThen_ok, if_neg hnc, hch, run_askRoom, hold w1 rfl, Bool.not_false, if_true, hc w1 rfl, hzv, newRow, run_newObj, e1, Sem.run_pure, Bool.false_eq_true, if_false]
    rfl

end
end Go.Abs
