/-
  REGIONS WHOSE ORDER IS THE TEXT's, CODE.
-/
import Derived.Test.YtagmcgbbgjkdbaaAbs17
import Derived.LoopN
set_option linter.all false
namespace Go.Abs
open Go

section
variable {P : Program} {B n na : Nat} {Γ Γ' : Imm} {L L' : Locs} {s s' s'' : St} {a : Act} {w w' : World} {H H' : Nat → Option Blk} {next next' base floor : Nat} {c : Ctx} {o : Oper} {io : IOper} {Q : Exit → Act → World → Prop}

structure OperOK (P : Program) (n na : Nat) (ops : Array Oper) (io : IOper) (o : Oper) : Prop where
  dst : io.dst = o.dst
  lt : ∀ i, io.dst = some i → i < n
  guard : okGuard ops io.guard o.guard = true
  aid : if io.op.usesAid then io.aid < na else io.aid = na
  op : okOp P io o = true

theorem okOper_spec {ops : Array Oper} (h : okOper P n na ops io o = true) : OperOK P n na ops io o := by
  unfold okOper at h
  simp only [Bool.and_eq_true, decide_eq_true_eq] at h
  obtain ⟨⟨⟨⟨h1, h2⟩, h3⟩, h4⟩, h5⟩ := h
  refine ⟨h1, fun i hi => ?_, h3, ?_, h5⟩
  · rw [hi] at h2; exact of_decide_eq_true h2
  · split <;> rename_i hu
    · rw [if_pos hu] at h4; exact of_decide_eq_true h4
    · rw [if_neg hu] at h4; exact of_decide_eq_true h4

/-- An operation, with its guard, in the midst of a region. -/
theorem step_sound {call : CallF} (htbl : TableOK P call) (hg : Good c n Γ L s a.tmps w) (hcb : c.h.next ≤ base) (hfb : s.floor ≤ base) (hbn : base + na ≤ s.next) {ops : Array Oper} (ok : OperOK P n na ops io o) (hfree : io.op.usesAid = true → Free L s.H (base + io.aid))
    (hr : stepOp call base io s = some s'') {i : Nat} (hi : ops[i]? = some o) : wpOp P ops Q i (After c n base na io.aid L s a s'') a w := by
  unfold stepOp at hr
  split at hr
  · rename_i hgd
    -- what the guard says in both
    have hwant : Region.wanted o (yielded ops a.tmps) = wants s.E io.guard := by
      have hgg := ok.guard
      cases h1 : io.guard with
      | none =>
        cases h2 : o.guard with
        | none => simp [Region.wanted, wants, h2]
        | some p => rw [h1, h2] at hgg; simp [okGuard] at hgg
      | some p =>
        obtain ⟨t, b⟩ := p
        cases h2 : o.guard with
        | none => rw [h1, h2] at hgg; simp [okGuard] at hgg
        | some q =>
          obtain ⟨j, b'⟩ := q
          rw [h1, h2] at hgg
          simp only [okGuard, Bool.and_eq_true, decide_eq_true_eq] at hgg
          obtain ⟨rfl, hj⟩ := hgg
          rw [h1] at hgd
          simp only [guardOk] at hgd
          simp only [Region.wanted, h2, wants, yielded, hj, Option.bind_some]
          cases he : s.E t with
          | undef => simp [he] at hgd
          | var cs => simp [he] at hgd
          | lref t' o' => simp [he] at hgd
          | val v =>
            obtain ⟨x, hx, hrep⟩ := hg.f.val t v he
            simp only [hx]
            cases v <;> simp only [he, Bool.false_eq_true] at hgd
            · rw [hrep.inv_bool]
              rename_i b0
              cases b0 <;> cases b <;> rfl
            · cases hrep
              cases b <;> rfl
    split at hr
    · rename_i hw
      rw [Option.bind_eq_some_iff] at hr
      obtain ⟨⟨sl, s1⟩, hrun, hp⟩ := hr
      unfold wpOp
      rw [hi]
      simp only [hwant, hw, if_true]
      left
      exact op_sound htbl hg hcb hfb hbn (fun hu => ⟨by have := ok.aid; rw [if_pos hu] at this; exact this, hfree hu⟩) ok.op ok.dst ok.lt hrun hp
    · rename_i hw
      unfold wpOp
      rw [hi]
      simp only [hwant, hw, if_false]
      rw [← ok.dst]
      exact ⟨Γ, L, hg.put ok.lt hr (sl := .val .undef) .undef, put_defers' _ _, Nat.le_of_eq (put_next hr).symm, fun b _ _ hf => by rw [put_H hr]; exact hf⟩
  · cases hr

/-- The aids of a list of operations that make blocks. -/
def aidsOf (ios : List IOper) : List Nat := (ios.filter fun io => io.op.usesAid).map (·.aid)

theorem ops_sound {call : CallF} (htbl : TableOK P call) (hcb : c.h.next ≤ base) (hfb : c.h.floor ≤ base) {ops : Array Oper} :
    ∀ (ios : List IOper) (i0 : Nat) (Γ : Imm) (L : Locs) (s : St) (a : Act) (w : World), (∀ j io, ios[j]? = some io → ∃ o, ops[i0 + j]? = some o ∧ OperOK P n na ops io o) → (aidsOf ios).Nodup →
      (∀ k ∈ aidsOf ios, k < na ∧ Free L s.H (base + k)) → Good c n Γ L s a.tmps w → base + na ≤ s.next → stepOps call base ios s = some s'' →
      (∀ Γ' L' a' w', Good c n Γ' L' s'' a'.tmps w' → a'.defers = a.defers → Q .normal a' w') → wpOps P ops Q (List.range' i0 ios.length) a w
  | [], i0, Γ, L, s, a, w, _, _, _, hg, _, hr, hQ => by
    simp only [stepOps, Option.some.injEq] at hr
    subst hr
    simp only [List.length_nil, List.range'_zero, wpOps]
    exact hQ Γ L a w hg rfl
  | io :: ios, i0, Γ, L, s, a, w, hok, hnd, hfree, hg, hbn, hr, hQ => by
    simp only [stepOps, Option.bind_eq_some_iff] at hr
    obtain ⟨s1, h1, h2⟩ := hr
    obtain ⟨o, ho, hoo⟩ := hok 0 io rfl
    have hfl : s.floor = c.h.floor := hg.since.floor
    rw [List.length_cons, List.range'_succ, wpOps_cons]
    have hmem : io.op.usesAid = true → io.aid ∈ aidsOf (io :: ios) := fun hu => by simp [aidsOf, hu]
    have hsub : ∀ k ∈ aidsOf ios, k ∈ aidsOf (io :: ios) := fun k hk => by
      simp only [aidsOf, List.mem_map, List.mem_filter] at hk ⊢
      obtain ⟨io', ⟨h1, h2⟩, h3⟩ := hk
      exact ⟨io', ⟨List.mem_cons_of_mem _ h1, h2⟩, h3⟩
    refine wpOp_mono ?_ (step_sound (Q := Q) htbl hg hcb (by rw [hfl]; exact hfb) hbn hoo (fun hu => (hfree _ (hmem hu)).2) h1 (by simpa using ho))
    rintro a1 w1 ⟨Γ1, L1, hg1, hd1, hn1, hf1⟩
    refine ops_sound htbl hcb hfb ios (i0 + 1) Γ1 L1 s1 a1 w1 (fun j io' hj => ?_) ?_ (fun k hk => ?_) hg1 ?_ h2 (fun Γ' L' a' w' hg' hd' => hQ Γ' L' a' w' hg' (hd'.trans hd1))
    · obtain ⟨o', ho', hoo'⟩ := hok (j + 1) io' (by simpa using hj)
      exact ⟨o', by rw [← ho']; congr 1; omega, hoo'⟩
    · simp only [aidsOf, List.filter_cons] at hnd
      split at hnd
      · rw [List.map_cons, List.nodup_cons] at hnd; exact hnd.2
      · exact hnd
    · obtain ⟨k1, k2⟩ := hfree k (hsub k hk)
      refine ⟨k1, hf1 _ (by omega) (fun e => ?_) k2⟩
      have e' : k = io.aid := by omega
      have haid := hoo.aid
      split at haid
      · rename_i hu
        simp only [aidsOf, List.filter_cons, hu, if_true, List.map_cons, List.nodup_cons] at hnd
        exact hnd.1 (by rw [← e']; exact hk)
      · omega
    · exact Nat.le_trans hbn hn1


/-! ### code -/

/-- A region whose order is open is looked at apart. -/
def okRegion (P : Program) (n na : Nat) (ios : List IOper) (ops : Array Oper) : Bool :=
  decide (ios.length = ops.size) && (ios.zip ops.toList).all (fun p => okOper P n na ops p.1 p.2) && decide (aidsOf ios).Nodup

theorem okRegion_spec {ios : List IOper} {ops : Array Oper} (h : okRegion P n na ios ops = true) :
    ios.length = ops.size ∧ (∀ (j : Nat) (io : IOper), ios[j]? = some io → ∃ o, ops[j]? = some o ∧ OperOK P n na ops io o) ∧ (aidsOf ios).Nodup := by
  unfold okRegion at h
  simp only [Bool.and_eq_true, decide_eq_true_eq] at h
  obtain ⟨⟨h1, h2⟩, h3⟩ := h
  refine ⟨h1, fun j io hj => ?_, h3⟩
  have hlt : j < ops.size := by rw [← h1]; exact (List.getElem?_eq_some_iff.1 hj).1
  have ho : ops[j]? = some ops[j] := Array.getElem?_eq_getElem hlt
  refine ⟨ops[j], ho, okOper_spec ?_⟩
  rw [List.all_eq_true] at h2
  refine h2 (io, ops[j]) ?_
  refine List.mem_iff_getElem?.2 ⟨j, ?_⟩
  rw [List.getElem?_zip_eq_some]
  exact ⟨hj, by rw [Array.getElem?_toList]; exact ho⟩

def exOf : Ex → Exit
  | .normal => .normal
  | .exit i => .exit i
  | .ret => .ret

/-- The check of a piece of code; 'dr' is asked of regions whose order is open. -/
def okCode (P : Program) (n : Nat) (dr : Nat → List IOper → Array Oper → Bool) : ICode → Code → Bool
  | .lim _ b, c => okCode P n dr b c
  | .skip, .skip => true
  | .reg d na ios, .region _ ops draw => decide (d = draw) && okRegion P n na ios ops && (!d || dr na ios ops)
  | .seq a b, .seq a' b' => okCode P n dr a a' && okCode P n dr b b'
  | .cond c a b, .cond c' a' b' => okOpd c c' && okCode P n dr a a' && okCode P n dr b b'
  | .block i b, .block j b' => decide (i = j) && okCode P n dr b b'
  | .loop _ b, .loop b' => okCode P n dr b b'
  | .exit i, .exit j => decide (i = j)
  | .ret, .ret => true
  | _, _ => false

/-- What holds behind a piece of code. -/
def Behind (c : Ctx) (n : Nat) (a : Act) (e : Ex) (s' : St) (e' : Exit) (a' : Act) (w' : World) : Prop :=
  e' = exOf e ∧ ∃ Γ' L', Good c n Γ' L' s' a'.tmps w' ∧ a'.defers = a.defers

/-- What the check of a region of open order must give. -/
def DrawOK (P : Program) (okc : CallF → Prop) (n : Nat) (dr : Nat → List IOper → Array Oper → Bool) : Prop :=
  ∀ (call : CallF) (c : Ctx) (na id : Nat) (ios : List IOper) (ops : Array Oper) (Γ : Imm) (L : Locs) (s s' : St) (a : Act) (w : World), okc call → TableOK P call → dr na ios ops = true → okRegion P n na ios ops = true → c.h.floor ≤ c.h.next → Good c n Γ L s a.tmps w →
    stepOps call s.next ios { s with next := s.next + na } = some s' → (Code.region id ops true).wp P (Behind c n a .normal s') a w

theorem Good.skip (hg : Good c n Γ L s a.tmps w) (na : Nat) : Good c n Γ L { s with next := s.next + na } a.tmps w ∧ ∀ k, k < na → Free L s.H (s.next + k) := by
  refine ⟨⟨⟨hg.f.size, ?_, hg.f.val, hg.f.var, hg.f.varInj, hg.f.lref⟩, ?_⟩, fun k _ => hg.f.heap.fresh _ (Nat.le_add_right _ _)⟩
  · exact ⟨hg.f.heap.imm, hg.f.heap.cells, hg.f.heap.perm, hg.f.heap.map, hg.f.heap.inj, fun b hb => hg.f.heap.fresh b (Nat.le_trans (Nat.le_add_right _ _) hb)⟩
  · have h := hg.since
    exact ⟨h.imm, h.locs, h.os, h.tape, h.output, h.size, h.block, h.low, h.dead, h.own, h.floor, Nat.le_trans h.next (Nat.le_add_right _ _)⟩

theorem mkEnv_lim (live : List Nat) (E : Nat → Slot) : ∀ (l : List Nat) (j : Nat), mkEnv (limEnv live E l) j = if j ∈ l then (E j).clean live else .undef
  | [], j => by simp [limEnv, mkEnv]
  | i :: l, j => by
    simp only [limEnv, mkEnv, mkEnv_lim live E l j, List.mem_cons]
    by_cases h : j = i
    · subst h; simp
    · simp [h]

theorem lim_spec (live : List Nat) (E : Nat → Slot) (j : Nat) : lim live E j = if j ∈ live then (E j).clean live else .undef := mkEnv_lim live E live j

theorem Good.lim (hg : Good c n Γ L s a.tmps w) (live : List Nat) : Good c n Γ L { s with E := Go.Abs.lim live s.E } a.tmps w := by
  have hval : ∀ t v, Go.Abs.lim live s.E t = .val v → s.E t = .val v := by
    intro t v h
    rw [lim_spec] at h
    split at h
    · cases he : s.E t <;> simp only [he, Slot.clean, reduceCtorEq] at h
      · exact h
      · split at h <;> cases h
    · cases h
  have hvar : ∀ t cs, Go.Abs.lim live s.E t = .var cs → s.E t = .var cs := by
    intro t cs h
    rw [lim_spec] at h
    split at h
    · cases he : s.E t <;> simp only [he, Slot.clean, reduceCtorEq] at h
      · exact h
      · split at h <;> cases h
    · cases h
  refine ⟨⟨hg.f.size, hg.f.heap, fun t v ht => hg.f.val t v (hval t v ht), fun t cs ht => hg.f.var t cs (hvar t cs ht), fun t t' cs cs' r h1 h2 => hg.f.varInj t t' cs cs' r (hvar _ _ h1) (hvar _ _ h2), fun t t' o ht => ?_⟩, hg.since⟩
  have ht' : Go.Abs.lim live s.E t = .lref t' o := ht
  rw [lim_spec] at ht'
  split at ht'
  · cases he : s.E t <;> simp only [he, Slot.clean, reduceCtorEq] at ht'
    split at ht'
    · rename_i hmem
      injection ht' with h1 h2
      subst h1; subst h2
      obtain ⟨cs, r, k1, k2, k3⟩ := hg.f.lref t _ _ he
      refine ⟨cs, r, ?_, k2, k3⟩
      show Go.Abs.lim live s.E _ = _
      rw [lim_spec, if_pos (by simpa using hmem), k1]
      rfl
    · cases ht'
  · cases ht'

theorem code_sound {call : CallF} (htbl : TableOK P call) {okc : CallF → Prop} (hokc : okc call) {dr : Nat → List IOper → Array Oper → Bool} (hdr : DrawOK P okc n dr) (hfl : c.h.floor ≤ c.h.next) (lf : Nat) :
    ∀ (ic : ICode) (co : Code) (e : Ex) (Γ : Imm) (L : Locs) (s s' : St) (a : Act) (w : World), okCode P n dr ic co = true → exec call lf ic s = some (e, s') → Good c n Γ L s a.tmps w → co.wp P (Behind c n a e s') a w := by
  intro ic
  induction ic with
  | skip =>
    intro co e Γ L s s' a w ok hx hg
    cases co <;> simp only [okCode, Bool.false_eq_true] at ok
    simp only [exec, Option.some.injEq, Prod.mk.injEq] at hx
    obtain ⟨rfl, rfl⟩ := hx
    exact wp_skip ⟨rfl, Γ, L, hg, rfl⟩
  | reg d na ios =>
    intro co e Γ L s s' a w ok hx hg
    cases co <;> simp only [okCode, Bool.false_eq_true] at ok
    rename_i id ops draw
    simp only [Bool.and_eq_true, decide_eq_true_eq] at ok
    obtain ⟨⟨rfl, ok1⟩, ok2⟩ := ok
    simp only [exec, Option.bind_eq_some_iff, Option.some.injEq, Prod.mk.injEq] at hx
    obtain ⟨s1, hs1, rfl, rfl⟩ := hx
    cases d with
    | true => exact hdr call c na id ios ops Γ L s s1 a w hokc htbl (by simpa using ok2) ok1 hfl hg hs1
    | false =>
      obtain ⟨h1, h2, h3⟩ := okRegion_spec ok1
      obtain ⟨hg1, hfree⟩ := hg.skip na
      have hnx : c.h.next ≤ s.next := hg.since.next
      refine wp_region ?_
      rw [List.range_eq_range', ← h1]
      refine ops_sound (na := na) htbl hnx (Nat.le_trans hfl hnx) ios 0 Γ L _ a w (fun j io hj => by rw [Nat.zero_add]; exact h2 j io hj) h3 (fun k hk => ?_) hg1 (Nat.le_refl _) hs1 (fun Γ' L' a' w' hg' hd' => ⟨rfl, Γ', L', hg', hd'⟩)
      have : k < na := by
        simp only [aidsOf, List.mem_map, List.mem_filter] at hk
        obtain ⟨io, ⟨hm, hu⟩, rfl⟩ := hk
        obtain ⟨j, hj⟩ := List.mem_iff_getElem?.1 hm
        obtain ⟨o, _, hoo⟩ := h2 j io hj
        have := hoo.aid
        rwa [if_pos hu] at this
      exact ⟨this, hfree k this⟩
  | seq x y ihx ihy =>
    intro co e Γ L s s' a w ok hx hg
    cases co <;> simp only [okCode, Bool.false_eq_true] at ok
    rw [Bool.and_eq_true] at ok
    simp only [exec, Option.bind_eq_some_iff] at hx
    obtain ⟨⟨e1, s1⟩, h1, h2⟩ := hx
    refine wp_seq (wp_mono (ihx _ e1 Γ L s s1 a w ok.1 h1 hg) ?_)
    rintro e' a' w' ⟨rfl, Γ', L', hg', hd'⟩
    cases e1 with
    | normal =>
      refine wp_mono (ihy _ e Γ' L' s1 s' a' w' ok.2 h2 hg') ?_
      rintro e'' a'' w'' ⟨h1, Γ'', L'', hg'', hd''⟩
      exact ⟨h1, Γ'', L'', hg'', hd''.trans hd'⟩
    | exit i =>
      simp only [Option.some.injEq, Prod.mk.injEq] at h2
      obtain ⟨rfl, rfl⟩ := h2
      exact ⟨rfl, Γ', L', hg', hd'⟩
    | ret =>
      simp only [Option.some.injEq, Prod.mk.injEq] at h2
      obtain ⟨rfl, rfl⟩ := h2
      exact ⟨rfl, Γ', L', hg', hd'⟩
  | cond cc x y ihx ihy =>
    intro co e Γ L s s' a w ok hx hg
    cases co <;> simp only [okCode, Bool.false_eq_true] at ok
    simp only [Bool.and_eq_true] at ok
    simp only [exec, condV] at hx
    split at hx
    · rename_i b hb
      have hev := (opd_rep hg.f ok.1.1 hb).inv_bool
      refine wp_cond hev ?_
      cases b
      · exact ihy _ e Γ L s s' a w ok.2 (by simpa using hx) hg
      · exact ihx _ e Γ L s s' a w ok.1.2 (by simpa using hx) hg
    · cases hx
  | block i b ih =>
    intro co e Γ L s s' a w ok hx hg
    cases co <;> simp only [okCode, Bool.false_eq_true] at ok
    rw [Bool.and_eq_true, decide_eq_true_eq] at ok
    obtain ⟨rfl, ok⟩ := ok
    simp only [exec, Option.bind_eq_some_iff] at hx
    obtain ⟨⟨e1, s1⟩, h1, h2⟩ := hx
    refine wp_block (wp_mono (ih _ e1 Γ L s s1 a w ok h1 hg) ?_)
    rintro e' a' w' ⟨rfl, Γ', L', hg', hd'⟩
    cases e1 with
    | normal =>
      simp only [Option.some.injEq, Prod.mk.injEq] at h2
      obtain ⟨rfl, rfl⟩ := h2
      exact ⟨rfl, Γ', L', hg', hd'⟩
    | ret =>
      simp only [Option.some.injEq, Prod.mk.injEq] at h2
      obtain ⟨rfl, rfl⟩ := h2
      exact ⟨rfl, Γ', L', hg', hd'⟩
    | exit j =>
      simp only [Option.some.injEq, Prod.mk.injEq] at h2
      obtain ⟨rfl, rfl⟩ := h2
      simp only [exOf, Exit.inBlock]
      split
      · exact ⟨rfl, Γ', L', hg', hd'⟩
      · exact ⟨rfl, Γ', L', hg', hd'⟩
  | loop live b ih =>
    intro co e Γ L s s' a w ok hx hg
    cases co <;> simp only [okCode, Bool.false_eq_true] at ok
    rename_i cb
    simp only [exec] at hx
    have key : ∀ (k : Nat) (Γ : Imm) (L : Locs) (s : St) (a1 : Act) (w : World), a1.defers = a.defers → iterN k (fun s => exec call lf b { s with E := Go.Abs.lim live s.E }) s = some (e, s') → Good c n Γ L s a1.tmps w →
        Code.rounds P cb (Behind c n a e s') k a1 w := by
      intro k
      induction k with
      | zero => intro Γ L s a1 w _ h; simp [iterN] at h
      | succ k ihk =>
        intro Γ L s a1 w hd h hg
        simp only [iterN, Option.bind_eq_some_iff] at h
        obtain ⟨⟨e1, s1⟩, h1, h2⟩ := h
        rw [rounds_succ]
        refine wp_mono (ih _ e1 Γ L _ s1 a1 w ok h1 (hg.lim live)) ?_
        rintro e' a' w' ⟨rfl, Γ', L', hg', hd'⟩
        cases e1 with
        | normal => exact ihk Γ' L' s1 a' w' (hd'.trans hd) h2 hg'
        | ret =>
          simp only [Option.some.injEq, Prod.mk.injEq] at h2
          obtain ⟨rfl, rfl⟩ := h2
          exact ⟨rfl, Γ', L', hg', hd'.trans hd⟩
        | exit j =>
          simp only [Option.some.injEq, Prod.mk.injEq] at h2
          obtain ⟨rfl, rfl⟩ := h2
          exact ⟨rfl, Γ', L', hg', hd'.trans hd⟩
    exact wp_loop_rounds lf (key lf Γ L s a w rfl hx hg)
  | lim live b ih =>
    intro co e Γ L s s' a w ok hx hg
    simp only [okCode] at ok
    simp only [exec, Option.bind_eq_some_iff] at hx
    obtain ⟨⟨e1, s1⟩, h1, h2⟩ := hx
    refine wp_mono (ih _ e1 Γ L s s1 a w ok h1 hg) ?_
    rintro e' a' w' ⟨rfl, Γ', L', hg', hd'⟩
    cases e1 with
    | normal =>
      simp only [Option.some.injEq, Prod.mk.injEq] at h2
      obtain ⟨rfl, rfl⟩ := h2
      exact ⟨rfl, Γ', L', hg'.lim live, hd'⟩
    | ret =>
      simp only [Option.some.injEq, Prod.mk.injEq] at h2
      obtain ⟨rfl, rfl⟩ := h2
      exact ⟨rfl, Γ', L', hg', hd'⟩
    | exit j =>
      simp only [Option.some.injEq, Prod.mk.injEq] at h2
      obtain ⟨rfl, rfl⟩ := h2
      exact ⟨rfl, Γ', L', hg', hd'⟩
  | exit i =>
    intro co e Γ L s s' a w ok hx hg
    cases co <;> simp only [okCode, Bool.false_eq_true] at ok
    have := of_decide_eq_true ok
    subst this
    simp only [exec, Option.some.injEq, Prod.mk.injEq] at hx
    obtain ⟨rfl, rfl⟩ := hx
    exact wp_exit ⟨rfl, Γ, L, hg, rfl⟩
  | ret =>
    intro co e Γ L s s' a w ok hx hg
    cases co <;> simp only [okCode, Bool.false_eq_true] at ok
    simp only [exec, Option.some.injEq, Prod.mk.injEq] at hx
    obtain ⟨rfl, rfl⟩ := hx
    exact wp_ret ⟨rfl, Γ, L, hg, rfl⟩

end
end Go.Abs
