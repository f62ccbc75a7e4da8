/-
  ONE OPERATION: append within the room, maps, calls.
-/
import Derived.Test.YtagmcgbbgjkdbaaAbs14
set_option linter.all false
namespace Go.Abs
open Go

section
variable {P : Program} {B n na : Nat} {Γ Γ' : Imm} {L L' : Locs} {s s' s'' : St} {a : Act} {w w' : World} {H H' : Nat → Option Blk} {next next' base floor : Nat} {c : Ctx} {o : Oper} {io : IOper} {Q : Exit → Act → World → Prop}

theorem op_append_own (hg : Good c n Γ L s a.tmps w) (hcb : c.h.next ≤ base) (hbn : base + na ≤ s.next) {t u : TypeId} {sz b k : Nat} (hk : AppendOK P sz t u) {x y : Opd} {X Y : Operand} {es new : List (List V)} {yv : V} (hx : okOpd x X = true) (hy : okOpd y Y = true)
    (ho : o.op = .call { callee := .builtin .append, args := #[X, Y], argTypes := #[t, u] }) (hxv : x.eval s.E = some (.list (.own b) es)) (hyv : y.eval s.E = some yv) (he : elemsOf s.H sz yv = some new) (hne : new ≠ [])
    (hd1 : headLen sz es = true) (hd2 : headLen sz new = true) (hroom : es.length + new.length ≤ room) (hb : s.H b = some (.perm sz k)) (hkl : k = es.length) (hfl : s.floor ≤ b) (hone : (new.all fun e => e.all V.one) = true)
    (hdst : io.dst = o.dst) (hdn : ∀ i, io.dst = some i → i < n) (hp : put { s with H := upd s.H b (some (.perm sz (k + new.length))) } io.dst (.val (.list (.own b) (es ++ new))) = some s'') {aid : Nat} :
    o.wp P a w (After c n base na aid L s a s'') Q := by
  subst hkl
  have hr := opd_rep hg.f hx hxv
  obtain ⟨base', cap, sz', gs0, vals, eX, r1, r2, r3, r4, hc1, _, hown⟩ := hr.inv_list
  obtain ⟨o1, o2, o3⟩ := hown b rfl
  have hpos : 0 < new.length := List.length_pos_iff.2 hne
  obtain ⟨pl, q1, q2, q3, q4⟩ := hg.f.heap.perm b sz _ hb
  rw [o1] at q1
  injection q1 with q1
  have hbid : b < s.next := by
    rcases Nat.lt_or_ge b s.next with h | h
    · exact h
    · have := (hg.f.heap.fresh b h).1; rw [hb] at this; cases this
  have hl : (es ++ new).length = es.length + new.length := List.length_append
  have hall := allLen_append (list_all hr hd1) (elems_all hg.f hy hyv he hd2)
  by_cases hcap : cap < es.length + new.length
  · obtain ⟨cap', xs, rest, el, k1, k2, k3, k4, k5⟩ := append_new (P := P) (rt := o.type) hg hk hx hy hxv hyv he hd1 hd2 hroom eX hcap
    have hrun := run_append_call (tt := 0) ho k5
    obtain ⟨Γ', L', g1, g2, g3⟩ := append_moved (base := base) (es := es ++ new) (k := es.length) hg hcb (by omega) hfl hbid (.inr ⟨hb, by rw [hl]; omega, q2⟩) (q2 _ (by rw [hl]; omega)) (by rw [hl]; exact k1) (by rw [hl]; exact k2) k3 (by rw [hl]; exact k4) hall hk.pos (by simp [hne])
    rw [hl] at g1 g2 g3
    unfold Oper.wp
    rw [hrun]
    simp only [Oper.upon]
    rw [← hdst]
    refine ⟨Γ', L', g1.put hdn hp (sl := .val _) g2, put_defers' _ _, Nat.le_of_eq (put_next hp).symm, fun b' _ _ hf => ?_⟩
    rw [put_H hp]
    exact g3 b' (by intro e; subst e; rw [hf.1] at hb; cases hb) hf
  · -- within the room
    have hcap' : es.length + new.length ≤ cap := by omega
    cases hbase : base' with
    | none => have := o3 hbase; omega
    | some ad =>
      subst hbase
      obtain ⟨h0, hsp⟩ := o2 ad rfl
      obtain ⟨r, off, spot⟩ := ad
      simp only at h0 hsp
      subst h0; subst hsp
      simp only [Option.map_some] at q1 o1
      subst q1
      obtain ⟨arr, el, gs, t0, hw, hΓ, ht, hgl, harr⟩ := q4 r cap rfl
      obtain ⟨e, ie, z, hu, hs, hie, hbb, hz, hzs⟩ := hk.get
      obtain ⟨h1, ys, h2, h3, h4⟩ := elems_cells (P := P) hg.f hy hyv he hd2
      have hyone : ∀ v ∈ ys, v.oneCell' = true := by
        intro v hv
        obtain ⟨j, hj⟩ := List.mem_iff_getElem?.1 hv
        obtain ⟨cv, hcv⟩ : ∃ cv, new.flatten[j]? = some cv := ⟨new.flatten[j]'(by rw [h3.1]; exact (List.getElem?_eq_some_iff.1 hj).1), List.getElem?_eq_getElem _⟩
        have hmem := List.mem_of_getElem? hcv
        rw [List.mem_flatten] at hmem
        obtain ⟨ee, he1, he2⟩ := hmem
        exact (h3.2 j cv v hcv hj).oneCell (List.all_eq_true.1 (List.all_eq_true.1 hone ee he1) cv he2)
      have hle2 : (es.length + new.length) * sz ≤ cap * sz := Nat.mul_le_mul_right _ hcap'
      obtain ⟨arr', hrun0, hl'⟩ := run_append_room (P := P) (w := w) (rt := o.type) (sCap := cap) (off := 0) (m := new.length) (xs := ys) hu hs hk.arg hcap' h1 (h4 w rfl) h2 hyone hw (by rw [harr]; omega)
      rw [← eX] at hrun0
      have hrun := run_append_call (tt := 0) ho hrun0
      have hgs : arr.toList.take (es.length * sz) = gs := by rw [ht, List.take_append_of_le_length (by omega), List.take_of_length_le (by omega)]
      have harr' : arr'.toList = (gs ++ ys) ++ arr.toList.drop (es.length * sz + new.length * sz) := by
        rw [hl']; simp only [Nat.zero_add, hgs]
      have hsize : arr'.size = cap * sz := by
        have : arr'.toList.length = arr.size := by
          rw [harr']
          simp only [List.length_append, hgl, h2, List.length_drop, Array.length_toList, harr]
          rw [← Nat.add_mul]
          omega
        rw [← harr, ← this]; simp
      have hlt := heap_lt hw
      have hΓle : Γ.le (upd Γ r (some (gs ++ ys))) := fun r1 g1 hg1 => by
        by_cases e1 : r1 = r
        · subst e1
          rw [hΓ] at hg1; injection hg1 with hg1; subst hg1
          exact ⟨ys, upd_self⟩
        · exact ⟨[], by rw [upd_other e1]; simpa using hg1⟩
      obtain ⟨hi, hsn⟩ := grow_perm (floor := s.floor) (base := base) (Γ' := upd Γ r (some (gs ++ ys))) (w' := setBlk w r (.cells arr' el (0, 0))) hg.f.heap (id := b) (sz := sz) (k := es.length) (k' := es.length + new.length) (q := some (r, cap)) hfl hbid (by omega)
        (.inr ⟨hb, by omega, q2⟩) (q2 _ (by omega)) ⟨rfl, rfl, rfl, by simp⟩ (fun h => by cases h) (fun r' cap'' h => by
          injection h with h; injection h with e1 e2; subst e1; subst e2
          refine ⟨⟨arr', el, gs ++ ys, _, setBlk_same hlt, upd_self, harr', by rw [List.length_append, hgl, h2, Nat.add_mul], hsize⟩, fun r1 h1 h2 => setBlk_other h1, fun r1 h1 => upd_other h1, .inr (by simp [real, hb, o1]), fun g1 hg1 => ?_⟩
          rw [hΓ] at hg1; injection hg1 with hg1; subst hg1
          exact ⟨ys, upd_self⟩)
      unfold Oper.wp
      rw [hrun]
      simp only [Oper.upon]
      rw [← hdst]
      have hreps : Reps Γ L es.flatten gs := by
        have hfl := flatten_length (list_all hr hd1)
        refine ⟨by rw [hfl, hgl], fun j cv x hcv hx => ?_⟩
        obtain ⟨i, kk, ee, rfl, hi', hk'⟩ := flatten_get (list_all hr hd1) hcv
        have hne' : es ≠ [] := by intro hh; subst hh; simp at hi'
        obtain ⟨ad, had, _, hg0⟩ := r2 hne'
        injection had with had
        subst had
        rw [hΓ] at hg0; injection hg0 with hg0; subst hg0
        have hsz : sz' = sz := headLen_spec hd1 r1 hne'
        subst hsz
        have := r3 _ rfl i kk ee cv hi' hk'
        simp only [Nat.zero_add] at this
        rw [this] at hx; injection hx with hx; subst hx
        exact r4 i kk ee cv hi' hk'
      refine ⟨_, _, (hg.heap hi hsn hcb).put hdn hp (sl := .val _) (x := .slice (some ⟨r, 0, none⟩) (es.length + new.length) cap) ?_, put_defers' _ _, Nat.le_of_eq (put_next hp).symm, fun b' _ _ hf => ?_⟩
      · have hreps2 := (reps_flatten hreps h3).mono hΓle hsn.locs
        have h0 := list_of_cells (p := .no) (sz := sz) (k := (es ++ new).length) (cap := cap) (off := 0) (r := r) (gs := gs ++ ys) (xs := gs ++ ys) (cs := (es ++ new).flatten) (Γ := upd Γ r (some (gs ++ ys))) upd_self (fun j x hx => by simpa using hx) hreps2 (by rw [flatten_length hall]) (by rw [hl]; exact hcap') (fun h => by cases h) (fun b h => by cases h)
        rw [chunks_flatten hk.pos hall] at h0
        obtain ⟨ad, cap2, sz2, gs2, vals2, e1, p1, p2, p3, p4, p5, p6, p7⟩ := h0.inv_list
        injection e1 with e1 _ e2
        subst e1; subst e2
        show Rep _ _ (V.list (.own b) (es ++ new)) (Value.slice (some ⟨r, 0, none⟩) (es.length + new.length) cap)
        rw [show Value.slice (some (⟨r, 0, none⟩ : Addr)) (es.length + new.length) cap = .slice (some ⟨r, 0, none⟩) (es ++ new).length cap by rw [hl]]
        refine .list (.own b) (es ++ new) _ _ sz2 gs2 vals2 p1 p2 p3 p4 p5 (fun h => by cases h) (fun b1 hb1 => ?_)
        injection hb1 with hb1
        subst hb1
        refine ⟨by simp [hl], fun ad had => ?_, fun h => by cases h⟩
        injection had with had; subst had
        exact ⟨rfl, rfl⟩
      · rw [put_H hp]
        have hne : b' ≠ b := by intro e; subst e; rw [hf.1] at hb; cases hb
        exact ⟨by show upd s.H b _ b' = none; rw [upd_other hne]; exact hf.1, hf.2.1, fun j => by show (if b' = b ∧ j = es.length + new.length then _ else L.perm b' j) = none; rw [if_neg (fun h => hne h.1)]; exact hf.2.2 j⟩

/-! ### maps -/

theorem Reps.set {cs : List V} {xs : List Value} {cv : V} {x : Value} (h : Reps Γ L cs xs) (hx : Rep Γ L cv x) (j : Nat) : Reps Γ L (cs.set j cv) (xs.set j x) := by
  refine ⟨by simp [h.1], fun i d y hd hy => ?_⟩
  by_cases e : j = i
  · subst e
    have h1 := (List.getElem?_eq_some_iff.1 hd).1
    have h2 := (List.getElem?_eq_some_iff.1 hy).1
    simp only [List.length_set] at h1 h2
    rw [List.getElem?_set_self h1] at hd
    rw [List.getElem?_set_self h2] at hy
    injection hd with hd; injection hy with hy
    subst hd; subst hy; exact hx
  · rw [List.getElem?_set_ne e] at hd hy
    exact h.2 i d y hd hy

theorem eraseIdx_map' {α β : Type} (f : α → β) (l : List α) (j : Nat) : (l.eraseIdx j).map f = (l.map f).eraseIdx j := by
  rw [List.eraseIdx_eq_take_drop_succ, List.eraseIdx_eq_take_drop_succ]; simp [List.map_take, List.map_drop]

theorem Reps.erase {cs : List V} {xs : List Value} (h : Reps Γ L cs xs) (j : Nat) : Reps Γ L (cs.eraseIdx j) (xs.eraseIdx j) := by
  rw [List.eraseIdx_eq_take_drop_succ, List.eraseIdx_eq_take_drop_succ]
  exact (h.take j).append (h.drop (j + 1))

theorem sameBits_K {k : CK} {p q : V} {x y : Value} (hx : Rep Γ L p x) (hy : Rep Γ L q y) (h : eqK k p q = some true) (m : Nat) : Instr.sameBits m x y = true := by
  cases k <;> cases p <;> cases q <;> simp only [eqK, reduceCtorEq] at h
  · split at h
    · rename_i hk
      subst hk
      injection h with h
      have := of_decide_eq_true h
      subst this
      rw [hx.inv_int, hy.inv_int]
      cases m <;> simp [Instr.sameBits]
    · cases h
  · injection h with h
    have := of_decide_eq_true h
    subst this
    rw [hx.inv_bool, hy.inv_bool]
    cases m <;> simp [Instr.sameBits]
  · injection h with h
    have := of_decide_eq_true h
    subst this
    obtain ⟨b1, e1, h1⟩ := hx.inv_str
    obtain ⟨b2, e2, h2⟩ := hy.inv_str
    rw [e1, e2]
    have : (b1 == b2) = true := by rw [beq_toListBytes, bytes_toList, bytes_toList, h1, h2]; simp
    cases m <;> simp [Instr.sameBits, this]

theorem sameBits_cells : ∀ {ks : List CK} {ps qs : List V} {xs ys : List Value}, Reps Γ L ps xs → Reps Γ L qs ys → eqCells ks ps qs = some true → ∀ m, (xs.zip ys).all (fun p => Instr.sameBits m p.1 p.2) = true ∧ xs.length = ys.length
  | [], [], [], xs, ys, hx, hy, _, m => by rw [hx.inv_nil, hy.inv_nil]; simp
  | k :: ks, p :: ps, q :: qs, xs, ys, hx, hy, h, m => by
    obtain ⟨x, xs', rfl, hx1, hx2⟩ := hx.inv_cons
    obtain ⟨y, ys', rfl, hy1, hy2⟩ := hy.inv_cons
    simp only [eqCells, Option.bind_eq_some_iff, Option.some.injEq, Bool.and_eq_true] at h
    obtain ⟨b1, h1, b2, h2, rfl, rfl⟩ := h
    obtain ⟨g1, g2⟩ := sameBits_cells hx2 hy2 h2 m
    simp only [List.zip_cons_cons, List.all_cons, sameBits_K hx1 hy1 h1 m, g1, Bool.and_self, List.length_cons, g2, and_self]
  | [], _ :: _, _, _, _, _, _, h, _ | [], [], _ :: _, _, _, _, _, h, _ | _ :: _, [], _, _, _, _, _, h, _ | _ :: _, _ :: _, [], _, _, _, _, h, _ => by simp [eqCells] at h

theorem run_keyStays {ks : KT} {p q : V} {x y : Value} (hx : Rep Γ L p x) (hy : Rep Γ L q y) (h : keyEq ks p q = some true) : (Instr.keyThatStays y x).run P w = .ok x w := by
  have : Instr.sameBits 10000 y x = true := by
    have sym : ∀ m, Instr.sameBits (m + 1) y x = true := by
      intro m
      unfold keyEq at h
      split at h
      · rename_i k
        have h' : eqK k q p = some true := by
          cases k <;> cases p <;> cases q <;> simp only [eqK, reduceCtorEq] at h ⊢
          · split at h
            · rename_i hk
              subst hk
              injection h with h
              have := of_decide_eq_true h
              subst this; simp
            · cases h
          · injection h with h
            have := of_decide_eq_true h
            subst this; simp
          · injection h with h
            have := of_decide_eq_true h
            subst this; simp
        exact sameBits_K hy hx h' _
      · rename_i ks'
        cases p <;> cases q <;> simp only [reduceCtorEq] at h
        rename_i as bs
        obtain ⟨xs, rfl, h1⟩ := hx.inv_agg
        obtain ⟨ys, rfl, h2⟩ := hy.inv_agg
        have h' : ∀ {ks : List CK} {as bs : List V}, eqCells ks as bs = some true → eqCells ks bs as = some true := by
          intro ks
          induction ks with
          | nil => intro as bs h; cases as <;> cases bs <;> simp_all [eqCells]
          | cons k ks ih =>
            intro as bs h
            cases as <;> cases bs <;> simp only [eqCells, reduceCtorEq, Option.bind_eq_some_iff, Option.some.injEq, Bool.and_eq_true] at h
            obtain ⟨b1, h1, b2, h2, rfl, rfl⟩ := h
            rename_i p ps q qs
            have hq : eqK k q p = some true := by
              cases k <;> cases p <;> cases q <;> simp only [eqK, reduceCtorEq] at h1 ⊢
              · split at h1
                · rename_i hk
                  subst hk
                  injection h1 with h1
                  have := of_decide_eq_true h1
                  subst this; simp
                · cases h1
              · injection h1 with h1
                have := of_decide_eq_true h1
                subst this; simp
              · injection h1 with h1
                have := of_decide_eq_true h1
                subst this; simp
            simp [eqCells, hq, ih h2]
        obtain ⟨g1, g2⟩ := sameBits_cells h2 h1 (h' h) m
        simp only [Instr.sameBits, List.size_toArray, g2, beq_self_eq_true, Bool.true_and, List.toList_toArray]
        exact g1
    exact sym 9999
  simp [Instr.keyThatStays, this]

/-- 'm[k] = v' -/
theorem op_mapupd (hg : Good c n Γ L s a.tmps w) (hcb : c.h.next ≤ base) (hbn : base + na ≤ s.next) {ks : KT} {t e : TypeId} {x k v : Opd} {X K Y : Operand} {b : Nat} {kv u : V} {es es' : List (V × V)} (ho : o.op = .mapUpdate t X K Y)
    (hx : okOpd x X = true) (hk : okOpd k K = true) (hy : okOpd v Y = true) (ht : tMap P ks t = some e) (hxv : x.eval s.E = some (.mapr b)) (hkv : k.eval s.E = some kv) (hyv : v.eval s.E = some u) (hb : s.H b = some (.map es)) (hfl : s.floor ≤ b) (hko : keyOk ks kv = true)
    (hset : mapSet ks kv u es = some es')
    (hdst : io.dst = o.dst) (hdn : ∀ i, io.dst = some i → i < n) (hp : put { s with H := upd s.H b (some (.map es')) } io.dst (.val .undef) = some s'') {aid : Nat} :
    o.wp P a w (After c n base na aid L s a s'') Q := by
  have hrk := opd_rep hg.f hk hkv
  have hry := opd_rep hg.f hy hyv
  have hrx := opd_rep hg.f hx hxv
  cases hX : a.eval X <;> rw [hX] at hrx <;> cases hrx
  rename_i r hr
  obtain ⟨kt, hu, hkt⟩ := tMap_spec ht
  obtain ⟨r', ms, clk, e1, hw, hΓ, h3, h4⟩ := hg.f.heap.map b es hb
  rw [hr] at e1; injection e1 with e1; subst e1
  obtain ⟨q, hq, rfl⟩ := mapSet_idx ks kv u es hset
  have hfind := findKey_run (P := P) (w := w) hkt hrk h3 hq
  have hchk := checkKey_run (P := P) (w := w) hkt hrk hko false
  -- what the map becomes
  have key : ∃ ms' clk', (Instr.mapUpdate t (.map (some r)) (a.eval K) (a.eval Y)).run P w = .ok () (setBlk w r (.map ms' clk')) ∧
      Reps Γ L ((match q with | none => es ++ [(kv, u)] | some j => es.set j (kv, u)).map (fun p : V × V => p.1)) (ms'.toList.map (·.key)) ∧ Reps Γ L ((match q with | none => es ++ [(kv, u)] | some j => es.set j (kv, u)).map (fun p : V × V => p.2)) (ms'.toList.map (·.val)) := by
    cases q with
    | none =>
      refine ⟨ms.push { key := a.eval K, val := a.eval Y, born := clk }, clk + 1, ?_, ?_, ?_⟩
      · simp only [Instr.mapUpdate, Sem.run_bind, run_underlying hu, Result.andThen_ok, MapKept.run_getObj_map hw, hchk, hfind, findOf]
        exact MapKept.run_setObj_map _ hw
      · simpa using h3.append (.one hrk)
      · simpa using h4.append (.one hry)
    | some j =>
      obtain ⟨⟨k', v'⟩, hej, hkeq⟩ := mapIdx_get hq
      obtain ⟨y', hy', hry'⟩ := h3.get (j := j) (c := k') (by simp [hej])
      rw [List.getElem?_map, Option.map_eq_some_iff] at hy'
      obtain ⟨me, hme, rfl⟩ := hy'
      have hme' : ms[j]? = some me := by rw [← Array.getElem?_toList]; exact hme
      have hstay := run_keyStays (P := P) (w := w) hrk hry' hkeq
      refine ⟨ms.modify j fun e => { e with key := a.eval K, val := a.eval Y }, clk, ?_, ?_, ?_⟩
      · simp only [Instr.mapUpdate, Sem.run_bind, run_underlying hu, Result.andThen_ok, MapKept.run_getObj_map hw, hchk, hfind, findOf, hme, Option.map_some, Nat.zero_add, hme', Option.getD_some, hstay]
        exact MapKept.run_setObj_map _ hw
      · have : (ms.modify j fun e => { e with key := a.eval K, val := a.eval Y }).toList.map (·.key) = (ms.toList.map (·.key)).set j (a.eval K) := by
          apply List.ext_getElem?
          intro i
          simp only [List.getElem?_map, Array.getElem?_toList, Array.getElem?_modify, List.getElem?_set, List.length_map, Array.length_toList]
          by_cases e : j = i
          · subst e
            have := (Array.getElem?_eq_some_iff.1 hme').1
            simp [hme', this]
          · simp [e]
        rw [this]
        simpa using h3.set hrk j
      · have : (ms.modify j fun e => { e with key := a.eval K, val := a.eval Y }).toList.map (·.val) = (ms.toList.map (·.val)).set j (a.eval Y) := by
          apply List.ext_getElem?
          intro i
          simp only [List.getElem?_map, Array.getElem?_toList, Array.getElem?_modify, List.getElem?_set, List.length_map, Array.length_toList]
          by_cases e : j = i
          · subst e
            have := (Array.getElem?_eq_some_iff.1 hme').1
            simp [hme', this]
          · simp [e]
        rw [this]
        simpa using h4.set hry j
  obtain ⟨ms', clk', hrun, g1, g2⟩ := key
  obtain ⟨hi, hs⟩ := write_blk (floor := s.floor) (base := base) hg.f.heap (id := b) (r := r) (by simp [real, hb, hr]) hfl (by omega) hb (b' := .map _) (o := .map ms' clk') (.inr ⟨es, _, ms', clk', rfl, rfl, rfl, g1, g2⟩)
  refine wp_heap (sl := .val .undef) rfl (hg.heap hi hs hcb) (.inr ⟨?_, rfl⟩) (show Rep _ _ .undef _ from .undef) hdst hdn hp (Nat.le_refl _) fun b' _ _ hf => ?_
  · simp only [execOp, ho, Sem.run_bind, hX, hrun, Result.andThen_ok, Sem.run_pure]
  · have hne : b' ≠ b := by intro e; subst e; rw [hf.1] at hb; cases hb
    exact ⟨by show upd s.H b _ b' = none; rw [upd_other hne]; exact hf.1, hf.2⟩

/-- 'delete(m, k)' -/
theorem op_mapdel (hg : Good c n Γ L s a.tmps w) (hcb : c.h.next ≤ base) (hbn : base + na ≤ s.next) {ks : KT} {ts : Array TypeId} {t e : TypeId} {x k : Opd} {X K : Operand} {b : Nat} {kv : V} {es es' : List (V × V)} (ho : o.op = .call { callee := .builtin .delete, args := #[X, K], argTypes := ts })
    (hts : ts[0]? = some t) (hx : okOpd x X = true) (hk : okOpd k K = true) (ht : tMap P ks t = some e) (hxv : x.eval s.E = some (.mapr b)) (hkv : k.eval s.E = some kv) (hb : s.H b = some (.map es)) (hfl : s.floor ≤ b) (hko : keyOk ks kv = true)
    (hdel : mapDel ks kv es = some es')
    (hdst : io.dst = o.dst) (hdn : ∀ i, io.dst = some i → i < n) (hp : put { s with H := upd s.H b (some (.map es')) } io.dst (.val (.tup [])) = some s'') {aid : Nat} :
    o.wp P a w (After c n base na aid L s a s'') Q := by
  have hrk := opd_rep hg.f hk hkv
  have hrx := opd_rep hg.f hx hxv
  cases hX : a.eval X <;> rw [hX] at hrx <;> cases hrx
  rename_i r hr
  obtain ⟨kt, hu, hkt⟩ := tMap_spec ht
  obtain ⟨r', ms, clk, e1, hw, hΓ, h3, h4⟩ := hg.f.heap.map b es hb
  rw [hr] at e1; injection e1 with e1; subst e1
  obtain ⟨q, hq, rfl⟩ := mapDel_idx ks kv es hdel
  have hfind := findKey_run (P := P) (w := w) hkt hrk h3 hq
  have hchk := checkKey_run (P := P) (w := w) hkt hrk hko ms.isEmpty
  have key : ∃ ms' clk', (Builtin.delete_ ts o.type #[.map (some r), a.eval K]).run P w = .ok (.tuple #[]) (setBlk w r (.map ms' clk')) ∧
      Reps Γ L ((match q with | none => es | some j => es.eraseIdx j).map (fun p : V × V => p.1)) (ms'.toList.map (·.key)) ∧ Reps Γ L ((match q with | none => es | some j => es.eraseIdx j).map (fun p : V × V => p.2)) (ms'.toList.map (·.val)) := by
    cases q with
    | none =>
      refine ⟨ms, clk, ?_, h3, h4⟩
      simp only [Builtin.delete_, hts, List.getElem?_toArray, List.getElem?_cons_zero, List.getElem?_cons_succ, Sem.run_bind, run_underlying hu, Result.andThen_ok, MapKept.run_getObj_map hw, hchk, hfind, findOf, MapKept.run_setObj_map _ hw, Sem.run_pure]
      rfl
    | some j =>
      obtain ⟨⟨k', v'⟩, hej, hkeq⟩ := mapIdx_get hq
      obtain ⟨y', hy', hry'⟩ := h3.get (j := j) (c := k') (by simp [hej])
      rw [List.getElem?_map, Option.map_eq_some_iff] at hy'
      obtain ⟨me, hme, rfl⟩ := hy'
      have hlt : j < ms.size := by have := (List.getElem?_eq_some_iff.1 hme).1; simpa using this
      refine ⟨ms.eraseIdxIfInBounds j, clk, ?_, ?_, ?_⟩
      · simp only [Builtin.delete_, hts, List.getElem?_toArray, List.getElem?_cons_zero, List.getElem?_cons_succ, Sem.run_bind, run_underlying hu, Result.andThen_ok, MapKept.run_getObj_map hw, hchk, hfind, findOf, hme, Option.map_some, Nat.zero_add, MapKept.run_setObj_map _ hw, Sem.run_pure]
        rfl
      · have : (ms.eraseIdxIfInBounds j).toList = ms.toList.eraseIdx j := by simp [Array.eraseIdxIfInBounds, hlt]
        rw [this, eraseIdx_map', eraseIdx_map']
        exact h3.erase j
      · have : (ms.eraseIdxIfInBounds j).toList = ms.toList.eraseIdx j := by simp [Array.eraseIdxIfInBounds, hlt]
        rw [this, eraseIdx_map', eraseIdx_map']
        exact h4.erase j
  obtain ⟨ms', clk', hrun, g1, g2⟩ := key
  obtain ⟨hi, hs⟩ := write_blk (floor := s.floor) (base := base) hg.f.heap (id := b) (r := r) (by simp [real, hb, hr]) hfl (by omega) hb (b' := .map _) (o := .map ms' clk') (.inr ⟨es, _, ms', clk', rfl, rfl, rfl, g1, g2⟩)
  refine wp_heap (sl := .val (.tup [])) (x := .tuple #[]) rfl (hg.heap hi hs hcb) (.inl ?_) (show Rep _ _ (.tup []) _ from Rep.tup' .nil) hdst hdn hp (Nat.le_refl _) fun b' _ _ hf => ?_
  · simp [execOp, ho, resolve, invoke, builtin, hX, hrun]
  · have hne : b' ≠ b := by intro e; subst e; rw [hf.1] at hb; cases hb
    exact ⟨by show upd s.H b _ b' = none; rw [upd_other hne]; exact hf.1, hf.2⟩

end
end Go.Abs
