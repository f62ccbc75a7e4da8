/-
  WHAT AN ARGUMENT READS AS, AS A VALUE OF THE ABSTRACT MACHINE: for types made of bools, whole numbers, strings, structs, arrays and slices.
-/
import Derived.Test.YtagmcgbbgjkdbaaAbs26
import Derived.ChangeArms
import Derived.OpenShut
import Derived.Carry
set_option linter.all false
namespace Go.Abs
open Go Go.ChangeShapes Go.WideShapes

section
variable {H : Type}
def vLit : Lit → V
  | .int k n => .int k n
  | .bool b => .bool b
  | .string s => .str s
  | _ => .undef

mutual
def vOf : DataW H → List V
  | .lit l => [vLit l]
  | .nil => [.list .no []]
  | .slice es _ => [.list .no (vOfs es)]
  | .agg ds => (vOfs ds).flatten
  | _ => [.undef]
def vOfs : List (DataW H) → List (List V)
  | [] => []
  | d :: ds => vOf d :: vOfs ds
end

theorem vOfs_map : ∀ l : List (DataW H), vOfs l = l.map vOf
  | [] => rfl
  | d :: ds => by simp only [vOfs, List.map_cons, vOfs_map ds]
end

/-- The blocks of a world, as they stay. -/
def imm0 (w : World) : Imm := fun r => match w.heap[r]? with
  | some (.cells arr _ _) => some arr.toList
  | _ => none
def locs0 : Locs := ⟨fun _ => none, fun _ _ => none⟩

theorem inv0 (w : World) : HInv (imm0 w) locs0 (fun _ => none) 0 w where
  imm r gs h := by
    unfold imm0 at h
    split at h
    · rename_i arr el fz heq
      injection h with h
      exact ⟨arr, el, fz, heq, [], by simp [h]⟩
    · cases h
  cells b cs h := by cases h
  perm b sz n h := by cases h
  map b es h := by cases h
  inj b b' r h := by simp [real] at h
  fresh b _ := ⟨rfl, rfl, fun _ => rfl⟩

def seqOK (P : Program) (T : List TypeId) : List Field → Nat → Nat → Bool
  | [], off, n => decide (off = n)
  | f :: fs, off, n => T.contains f.type && decide (f.offset = off) && seqOK P T fs (off + P.cellsOf f.type) n

def plainOK (P : Program) (T : List TypeId) : Bool := T.all fun t => match P.underlying t with
  | some .bool | some (.int _) | some .string => true
  | some (.slice e) => T.contains e && decide (0 < P.cellsOf e)
  | some (.struct fs) => seqOK P T fs.toList 0 (P.cellsOf t)
  | some (.array n e) => T.contains e && decide (n * P.cellsOf e = P.cellsOf t)
  | _ => false

section
variable {H : Type} {enc : TypeId × Value → H} {P : Program} {w : World} {sp : Nat → Bool} {held : Bool} {T : List TypeId} {L : Locs}

theorem reps_flat0 {Γ : Imm} : ∀ (vs : List (List V)) (xs : List (List Value)), vs.length = xs.length → (∀ (i : Nat) v x, vs[i]? = some v → xs[i]? = some x → Reps Γ L v x) → Reps Γ L vs.flatten xs.flatten
  | [], [], _, _ => .nil
  | [], _ :: _, h, _ => by simp at h
  | _ :: _, [], h, _ => by simp at h
  | v :: vs, x :: xs, h, hr => by
    simp only [List.flatten_cons]
    exact (hr 0 v x rfl rfl).append (reps_flat0 vs xs (by simpa using h) fun i a b ha hb => hr (i + 1) a b (by simpa using ha) (by simpa using hb))

theorem cells_imm {a : Addr} {n : Nat} {cs : List Value} (h : w.cells? 0 a n = some cs) (hn : 0 < n) (i : Nat) (hi : i < n) : ∃ gs, imm0 w a.block = some gs ∧ gs[a.off + i]? = cs[i]? ∧ a.spot = none := by
  obtain ⟨_, hl, hc⟩ := World.cells?_some h
  have h0 := hc 0 hn
  have hi' := hc i hi
  rw [List.getElem?_eq_getElem (by omega)] at h0 hi'
  unfold World.cell? at h0 hi'
  have hb : ∀ k, (a.add k).block = a.block := fun k => by unfold Addr.add; split <;> rfl
  rw [hb] at h0 hi'
  unfold imm0
  cases hw : w.heap[a.block]? with
  | none => rw [hw] at h0; cases h0
  | some b =>
    rw [hw] at h0 hi'
    cases b with
    | cells arr el fz =>
      simp only at h0 hi' ⊢
      refine ⟨arr.toList, rfl, ?_, ?_⟩
      · by_cases hs : (a.add i).spot.isSome = true
        · rw [if_pos hs] at hi'; cases hi'
        · rw [if_neg hs] at hi'
          rw [List.getElem?_eq_getElem (show i < cs.length by omega), ← hi', Array.getElem?_toList]
          unfold Addr.add
          split
          · rename_i h0; rw [h0]; rfl
          · rfl
      · unfold Addr.add at h0
        rw [if_pos rfl] at h0
        cases hs : a.spot with
        | none => rfl
        | some s => rw [hs] at h0; simp at h0
    | _ => cases h0

theorem contains_mem {t : TypeId} (h : T.contains t = true) : t ∈ T := by simpa using h

theorem struct_reps {Γ : Imm} {n : Nat} (ih : ∀ t cs x, t ∈ T → DataW.trod enc P w 0 sp held n t cs = some x → Reps Γ L (vOf x.1) cs) :
    ∀ (fs : List Field) (off : Nat) (cs : List Value) (xs : List (DataW H × List MemPlace)), seqOK P T fs off cs.length = true → off ≤ cs.length → xs.length = fs.length →
      (∀ (i : Nat) (f : Field), fs[i]? = some f → DataW.trod enc P w 0 sp held n f.type ((cs.drop f.offset).take (P.cellsOf f.type)) = xs[i]?) → Reps Γ L (vOfs (xs.map (·.1))).flatten (cs.drop off)
  | [], off, cs, xs, h, _, hl, _ => by
    simp only [seqOK, decide_eq_true_eq] at h
    have : xs = [] := List.eq_nil_of_length_eq_zero hl
    subst this
    rw [h, List.drop_length]
    exact .nil
  | f :: fs, off, cs, xs, h, ho, hl, hx => by
    cases xs with
    | nil => simp at hl
    | cons x xs =>
      simp only [seqOK, Bool.and_eq_true, decide_eq_true_eq] at h
      obtain ⟨⟨h1, h2⟩, h3⟩ := h
      have hf := hx 0 f rfl
      rw [h2] at hf
      have r1 := ih f.type _ x (contains_mem h1) (by simpa using hf)
      have le : ∀ (fs : List Field) (o : Nat), seqOK P T fs o cs.length = true → o ≤ cs.length := by
        intro fs
        induction fs with
        | nil => intro o h; simp only [seqOK, decide_eq_true_eq] at h; omega
        | cons g gs ihg => intro o h; simp only [seqOK, Bool.and_eq_true] at h; have := ihg _ h.2; omega
      have r2 := struct_reps ih fs (off + P.cellsOf f.type) cs xs h3 (le fs _ h3) (by simpa using hl) fun i g hg => by
        have := hx (i + 1) g (by simpa using hg)
        simpa using this
      simp only [List.map_cons, vOfs, List.flatten_cons]
      have hsplit : cs.drop off = (cs.drop off).take (P.cellsOf f.type) ++ cs.drop (off + P.cellsOf f.type) := by
        rw [← List.drop_drop, List.take_append_drop]
      rw [hsplit]
      exact r1.append r2

theorem rep_trod (hT : plainOK P T = true) : ∀ (n : Nat) (t : TypeId) (cs : List Value) (x : DataW H × List MemPlace), t ∈ T → DataW.trod enc P w 0 sp held n t cs = some x → Reps (imm0 w) L (vOf x.1) cs
  | 0, t, cs, x, _, h => by simp [DataW.trod] at h
  | n + 1, t, cs, x, ht, h => by
    have ih : ∀ t cs x, t ∈ T → DataW.trod enc P w 0 sp held n t cs = some x → Reps (imm0 w) L (vOf x.1) cs := rep_trod hT n
    have hk := List.all_eq_true.1 hT t ht
    cases hu : P.underlying t with
    | none => rw [hu] at hk; cases hk
    | some u =>
      rw [hu] at hk
      cases u
      case bool =>
        obtain ⟨b, rfl, rfl⟩ := DataW.trod_bool hu h
        exact .one (.bool b)
      case int k =>
        obtain ⟨b, rfl, rfl, _⟩ := DataW.trod_int hu h
        exact .one (.int k b)
      case string =>
        obtain ⟨s, rfl, rfl, _⟩ := DataW.trod_string hu h
        exact .one (.str _ s rfl)
      case slice e =>
        simp only [Bool.and_eq_true, decide_eq_true_eq] at hk
        obtain ⟨he, hpos⟩ := hk
        rcases DataW.trod_slice hu h with ⟨rfl, rfl⟩ | ⟨a, len, cap, elems, rest, m, hm, rfl, rfl, _, hle, hcap, hlen, hel, _, _⟩
        · refine .one ?_
          exact .list .no [] none 0 0 [] (fun _ _ => Go.undef) (by simp) (by simp) (by simp) (by simp) (Nat.le_refl _) (by simp) (by simp)
        · simp only [Nat.add_right_cancel_iff] at hm
          subst hm
          refine .one ?_
          have hlenV : (vOfs (elems.map (·.1))).length = len := by rw [vOfs_map]; simpa using hlen
          have get : ∀ i, i < len → ∃ y cs', elems[i]? = some y ∧ w.cells? 0 (a.add (i * P.cellsOf e)) (P.cellsOf e) = some cs' ∧ Reps (imm0 w) L (vOf y.1) cs' := by
            intro i hi
            have := hel i hi
            rw [List.getElem?_eq_getElem (by omega)] at this
            obtain ⟨cs', h1, h2⟩ := Option.bind_eq_some_iff.1 this
            exact ⟨_, cs', List.getElem?_eq_getElem _, h1, ih e cs' _ (contains_mem he) h2⟩
          have blk : ∀ k, (a.add k).block = a.block := fun k => by unfold Addr.add; split <;> rfl
          have offk : ∀ k, (a.add k).off = a.off + k := fun k => by unfold Addr.add; split <;> simp_all
          have key : ∀ i j ev c, (vOfs (elems.map (·.1)))[i]? = some ev → ev[j]? = some c → ∃ gs v, imm0 w a.block = some gs ∧ gs[a.off + i * P.cellsOf e + j]? = some v ∧ Rep (imm0 w) L c v := by
            intro i j ev c hev hc
            have hi : i < len := by rw [← hlenV]; exact (List.getElem?_eq_some_iff.1 hev).1
            obtain ⟨y, cs', h1, h2, h3⟩ := get i hi
            have e1 : ev = vOf y.1 := by
              rw [vOfs_map] at hev
              simp only [List.getElem?_map, h1, Option.map_some, Option.some.injEq] at hev
              exact hev.symm
            subst e1
            obtain ⟨v, hv, hr⟩ := h3.get hc
            have hjl : j < P.cellsOf e := by
              have := (List.getElem?_eq_some_iff.1 hv).1
              have := (World.cells?_some h2).2.1
              omega
            obtain ⟨gs, g1, g2, _⟩ := cells_imm h2 hpos j hjl
            rw [blk] at g1
            rw [offk] at g2
            exact ⟨gs, v, g1, by rw [g2, hv], hr⟩
          have hne : vOfs (elems.map (·.1)) ≠ [] → a.spot = none ∧ ∃ gs, imm0 w a.block = some gs := by
            intro hne
            have h0 : 0 < len := by
              rw [← hlenV]
              exact List.length_pos_iff.2 hne
            obtain ⟨y, cs', h1, h2, h3⟩ := get 0 h0
            rw [Nat.zero_mul] at h2
            obtain ⟨gs, g1, _, g3⟩ := cells_imm h2 hpos 0 hpos
            rw [blk] at g1
            refine ⟨?_, gs, g1⟩
            unfold Addr.add at g3
            rw [if_pos rfl] at g3
            exact g3
          have hval : ∀ i j ev c gs, imm0 w a.block = some gs → (vOfs (elems.map (·.1)))[i]? = some ev → ev[j]? = some c → gs[a.off + i * P.cellsOf e + j]? = some (gs.getD (a.off + i * P.cellsOf e + j) Go.undef) ∧ Rep (imm0 w) L c (gs.getD (a.off + i * P.cellsOf e + j) Go.undef) := by
            intro i j ev c gs hg hev hc
            obtain ⟨gs', v, g1, g2, g3⟩ := key i j ev c hev hc
            rw [hg] at g1
            injection g1 with g1
            subst g1
            simp only [List.getD_eq_getElem?_getD, g2, Option.getD_some]
            exact ⟨trivial, g3⟩
          rw [show (Value.slice (some a) len cap) = .slice (some a) (vOfs (elems.map (·.1))).length cap by rw [hlenV]]
          show Rep (imm0 w) L (.list .no (vOfs (elems.map (·.1)))) _
          by_cases hnil : vOfs (elems.map (·.1)) = []
          · rw [hnil]
            exact .list .no [] (some a) cap 0 [] (fun _ _ => Go.undef) (by simp) (by simp) (by simp) (by simp) (Nat.zero_le _) (by simp) (by simp)
          · obtain ⟨hsp, gs, hg⟩ := hne hnil
            refine .list .no _ (some a) cap (P.cellsOf e) gs (fun i j => gs.getD (a.off + i * P.cellsOf e + j) Go.undef) (fun ev hev => ?_) (fun _ => ⟨a, rfl, hsp, hg⟩) (fun ad had i j ev c h1 h2 => ?_) (fun i j ev c h1 h2 => ?_) (by rw [hlenV]; exact hle) (by simp) (by simp)
            · obtain ⟨i, hi⟩ := List.mem_iff_getElem?.1 hev
              have hil : i < len := by rw [← hlenV]; exact (List.getElem?_eq_some_iff.1 hi).1
              obtain ⟨y, cs', h1, h2, h3⟩ := get i hil
              have e1 : ev = vOf y.1 := by
                rw [vOfs_map] at hi
                simp only [List.getElem?_map, h1, Option.map_some, Option.some.injEq] at hi
                exact hi.symm
              rw [e1, h3.1]
              exact (World.cells?_some h2).2.1
            · injection had with had
              subst had
              exact (hval i j ev c gs hg h1 h2).1
            · exact (hval i j ev c gs hg h1 h2).2
      case struct fs =>
        obtain ⟨xs, m, hm, rfl, hl, hlx, hx⟩ := DataW.trod_struct hu h
        simp only [Nat.add_right_cancel_iff] at hm
        subst hm
        have := struct_reps (Γ := imm0 w) (L := L) ih fs.toList 0 cs xs (by rw [hl]; exact hk) (Nat.zero_le _) (by simpa using hlx) fun i f hf => hx i f (by simpa using hf)
        simpa [vOf] using this
      case array k e =>
        simp only [Bool.and_eq_true, decide_eq_true_eq] at hk
        obtain ⟨xs, m, hm, rfl, hl, hlx, hx⟩ := DataW.trod_array hu h
        simp only [Nat.add_right_cancel_iff] at hm
        subst hm
        show Reps (imm0 w) L (vOfs (xs.map (·.1))).flatten cs
        have cut : ∀ (j : Nat) (c : List Value), c.length = j * P.cellsOf e → c = ((List.range j).map fun i => (c.drop (i * P.cellsOf e)).take (P.cellsOf e)).flatten := by
          intro j
          induction j with
          | zero => intro c hc; have : c = [] := List.eq_nil_of_length_eq_zero (by simpa using hc); subst this; rfl
          | succ j ihj =>
            intro c hc
            rw [List.range_succ, List.map_append, List.flatten_append]
            have h1 := ihj (c.take (j * P.cellsOf e)) (by rw [List.length_take, hc, Nat.succ_mul]; omega)
            have h2 : ((List.range j).map fun i => ((c.take (j * P.cellsOf e)).drop (i * P.cellsOf e)).take (P.cellsOf e)) = (List.range j).map fun i => (c.drop (i * P.cellsOf e)).take (P.cellsOf e) := by
              refine List.map_congr_left fun i hi => ?_
              have hij : i < j := List.mem_range.1 hi
              rw [List.drop_take, List.take_take]
              congr 1
              have : (i + 1) * P.cellsOf e ≤ j * P.cellsOf e := Nat.mul_le_mul_right _ hij
              rw [Nat.succ_mul] at this
              omega
            rw [h2] at h1
            simp only [List.map_cons, List.map_nil, List.flatten_cons, List.flatten_nil, List.append_nil]
            rw [← h1]
            have h3 : (c.drop (j * P.cellsOf e)).take (P.cellsOf e) = c.drop (j * P.cellsOf e) := List.take_of_length_le (by rw [List.length_drop, hc, Nat.succ_mul]; omega)
            rw [h3, List.take_append_drop]
        rw [cut k cs (by rw [hl, hk.2])]
        refine reps_flat0 _ _ (by rw [vOfs_map]; simp [hlx]) fun i v c hv hc => ?_
        simp only [List.getElem?_map, Option.map_eq_some_iff] at hc
        obtain ⟨i', hi', rfl⟩ := hc
        have hik : i < k := by have := (List.getElem?_eq_some_iff.1 hi').1; simpa using this
        have : i' = i := by rw [List.getElem?_eq_getElem (by simpa using hik)] at hi'; simpa using hi'.symm
        subst this
        have h1 := hx i' hik
        rw [vOfs_map] at hv
        simp only [List.getElem?_map, Option.map_eq_some_iff] at hv
        obtain ⟨y0, ⟨y, hy, rfl⟩, rfl⟩ := hv
        exact ih e _ y (contains_mem hk.1) (by rw [h1, hy])
      all_goals cases hk

/-- An argument. -/
theorem rep_arg (hT : plainOK P T = true) {t : TypeId} {v : Value} {d : DataW H} {ps : List MemPlace} (ht : t ∈ T) (h : DataW.Trod enc P w 0 sp held t v d ps) : Reps (imm0 w) L (vOf d) v.cells.toList := by
  obtain ⟨n, hn⟩ := h
  exact rep_trod hT n t _ _ ht hn
end
end Go.Abs
