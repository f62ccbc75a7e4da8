/-
  THE MACHINE OVER TREES IS THE MACHINE.
-/
import Derived.Test.YtagmcgbbgjkdbaaFast1
set_option linter.all false
namespace Go.Abs
open Go

section trees
variable {α : Type}
theorem T.get_leaf (n : Nat) : (T.leaf : T α).get n = none := rfl
theorem T.get_zero (v : Option α) (l r : T α) : (T.node v l r).get 0 = v := rfl
theorem T.get_succ (v : Option α) (l r : T α) (m : Nat) : (T.node v l r).get (m + 1) = if m % 2 = 0 then l.get (m / 2) else r.get (m / 2) := by
  show (@Bool.rec (fun _ => Option α) (r.get (m / 2)) (l.get (m / 2)) (Nat.beq (m % 2) 0)) = _
  by_cases h : m % 2 = 0
  · rw [if_pos h, h]; rfl
  · rw [if_neg h]
    have : m % 2 = 1 := by omega
    rw [this]; rfl

def T.val : T α → Option α | .leaf => none | .node v _ _ => v
def T.lt : T α → T α | .leaf => .leaf | .node _ l _ => l
def T.rt : T α → T α | .leaf => .leaf | .node _ _ r => r

theorem T.set_zero (d : Nat) (t : T α) (x : Option α) : T.set (d + 1) t 0 x = .node x t.lt t.rt := by cases t <;> rfl
theorem T.set_succ (d : Nat) (t : T α) (m : Nat) (x : Option α) : T.set (d + 1) t (m + 1) x = if m % 2 = 0 then .node t.val (T.set d t.lt (m / 2) x) t.rt else .node t.val t.lt (T.set d t.rt (m / 2) x) := by
  have hb : Nat.beq (m % 2) 0 = decide (m % 2 = 0) := by
    by_cases h : m % 2 = 0
    · rw [h]; rfl
    · have : m % 2 = 1 := by omega
      rw [this]; rfl
  cases t with
  | leaf =>
    show (@Bool.rec (fun _ => T α) (.node none .leaf (T.set d .leaf (m / 2) x)) (.node none (T.set d .leaf (m / 2) x) .leaf) (Nat.beq (m % 2) 0)) = _
    rw [hb]
    by_cases h : m % 2 = 0
    · simp [h, T.val, T.lt, T.rt]
    · simp [h, T.val, T.lt, T.rt]
  | node v l r =>
    show (@Bool.rec (fun _ => T α) (.node v l (T.set d r (m / 2) x)) (.node v (T.set d l (m / 2) x) r) (Nat.beq (m % 2) 0)) = _
    rw [hb]
    by_cases h : m % 2 = 0
    · simp [h, T.val, T.lt, T.rt]
    · simp [h, T.val, T.lt, T.rt]

theorem T.get_zero' (t : T α) : t.get 0 = t.val := by cases t <;> rfl
theorem T.get_succ' (t : T α) (m : Nat) : t.get (m + 1) = if m % 2 = 0 then t.lt.get (m / 2) else t.rt.get (m / 2) := by
  cases t with
  | leaf => simp [T.lt, T.rt, T.get_leaf]
  | node v l r => exact T.get_succ v l r m

theorem T.get_set : ∀ (d : Nat) (t : T α) (n m : Nat) (x : Option α), n < d → (T.set d t n x).get m = if m = n then x else t.get m
  | 0, _, _, _, _, h => by omega
  | d + 1, t, 0, m, x, _ => by
    rw [T.set_zero]
    cases m with
    | zero => simp [T.get_zero]
    | succ m => rw [T.get_succ, T.get_succ' t, if_neg (show ¬ (m + 1 = 0) by omega)]
  | d + 1, t, n + 1, m, x, h => by
    rw [T.set_succ]
    cases m with
    | zero => rw [if_neg (show ¬ (0 = n + 1) by omega), T.get_zero' t]; split <;> rfl
    | succ m =>
      rw [T.get_succ' t]
      by_cases hn : n % 2 = 0
      · rw [if_pos hn, T.get_succ]
        by_cases hm : m % 2 = 0
        · rw [if_pos hm, if_pos hm, T.get_set d _ _ _ _ (by omega)]
          by_cases he : m / 2 = n / 2
          · rw [if_pos he, if_pos (by omega)]
          · rw [if_neg he, if_neg (by omega)]
        · rw [if_neg hm, if_neg hm, if_neg (by omega)]
      · rw [if_neg hn, T.get_succ]
        by_cases hm : m % 2 = 0
        · rw [if_pos hm, if_pos hm, if_neg (by omega)]
        · rw [if_neg hm, if_neg hm, T.get_set d _ _ _ _ (by omega)]
          by_cases he : m / 2 = n / 2
          · rw [if_pos he, if_pos (by omega)]
          · rw [if_neg he, if_neg (by omega)]

theorem T.get_put (t : T α) (n m : Nat) (x : Option α) : (t.put n x).get m = if m = n then x else t.get m := T.get_set _ t n m x (Nat.lt_succ_self n)
end trees

@[simp] theorem obind_eq {α β : Type} (x : Option α) (f : α → Option β) : obind x f = x.bind f := by cases x <;> rfl
@[simp] theorem bsel_eq {α : Type} (b : Bool) (x y : α) : bsel b x y = if b then x else y := by cases b <;> rfl
theorem slotV_eq (x : Slot) : slotV x = match x with | .val v => some v | _ => none := by cases x <;> rfl

noncomputable def FS.st (s : FS) : St := ⟨s.e, s.H.get, s.next, s.floor⟩
noncomputable def FH.hs (h : FH) : HS := ⟨h.H.get, h.next, h.floor⟩

theorem e_eq (s : FS) (i : Nat) : s.e i = (s.E.get i).getD .undef := by unfold FS.e; cases s.E.get i <;> rfl
theorem evF_eq (s : FS) (x : Opd) : evF s.E x = x.eval s.e := by
  cases x with
  | t i =>
    show (@Option.rec Slot (fun _ => Option V) none slotV (s.E.get i)) = _
    simp only [Opd.eval, e_eq]
    cases h : s.E.get i with
    | none => rfl
    | some a => simp only [Option.getD_some]; exact slotV_eq a
  | k v => rfl
theorem evsF_eq (s : FS) : ∀ xs : List Opd, evsF s.E xs = Opd.evals s.e xs
  | [] => rfl
  | x :: xs => by
    show obind (evF s.E x) (fun v => obind (evsF s.E xs) fun vs => some (v :: vs)) = _
    simp only [obind_eq, evF_eq, evsF_eq s xs, Opd.evals]

theorem put_E (s : FS) (d : Nat) (x : Slot) : (⟨s.E.put d (some x), s.H, s.next, s.floor⟩ : FS).st = { s.st with E := upd s.st.E d x } := by
  simp only [FS.st, St.mk.injEq, and_true]
  funext j
  simp only [e_eq, T.get_put, upd]
  split <;> simp

theorem put_eq (s : FS) (d : Option Nat) (x : Slot) : put s.st d x = (s.put d x).map FS.st := by
  cases d with
  | none => rfl
  | some d =>
    have hp := put_E s d x
    simp only [put]
    show (match s.e d with | .var _ => none | _ => some { s.st with E := upd s.st.E d x }) = Option.map FS.st (@Slot.rec (fun _ => Option FS) _ _ _ _ (s.e d))
    cases s.e d <;> simp only [Option.map_some, Option.map_none, hp]

/-- The effect on the state. -/
def St.eff (s : St) : Eff → St
  | .no => s
  | .heap b k => { s with H := upd s.H b (some k) }
  | .var t cs => { s with E := upd s.E t (.var cs) }

theorem eff_eq (s : FS) (e : Eff) : (s.eff e).st = s.st.eff e := by
  cases e with
  | no => rfl
  | heap b k =>
    show (⟨s.E, s.H.put b (some k), s.next, s.floor⟩ : FS).st = _
    simp only [FS.st, St.eff, St.mk.injEq, and_true]
    refine ⟨rfl, ?_⟩
    funext j
    simp only [T.get_put, upd]
  | var t cs => exact put_E s t (.var cs)

theorem putE_eq (s : St) (new : List V) (a : AV) : a.put s new = (a.putE s.E s.H s.floor new).bind fun e => some (s.eff e) := by
  cases a with
  | loc t o =>
    simp only [AV.put, AV.putE]
    cases s.E t <;> simp only [Option.bind_none]
    rename_i cs
    cases setCells cs o new <;> rfl
  | ref b o =>
    simp only [AV.put, AV.putE]
    cases s.H b with
    | none => rfl
    | some k =>
      cases k with
      | cells cs =>
        simp only
        split
        · cases setCells cs o new <;> rfl
        · rfl
      | perm => rfl
      | map => rfl
  | imm cs => rfl

def noCall : IOp → Bool
  | .call _ _ | .callv _ _ => false
  | _ => true

theorem runOp_eff (call : CallF) (base : Nat) (o : IOper) (s : St) (hn : noCall o.op = true) :
    runOp call base o s = (effOp base o s.E s.H s.floor).bind fun r => some (r.1, s.eff r.2) := by
  obtain ⟨dst, guard, aid, mT, mA, op⟩ := o
  have pv : ∀ v : Option V, (v.bind fun v => some (Slot.val v, s)) = ((v.bind fun v => some (Slot.val v, Eff.no)).bind fun r => some (r.1, s.eff r.2)) := fun v => by cases v <;> rfl
  cases op
  case call => simp [noCall] at hn
  case callv => simp [noCall] at hn
  case mov x =>
    simp only [runOp, effOp, movR, movE]
    cases x with
    | t i => simp only; cases s.E i <;> rfl
    | k v => rfl
  case allocV => rfl
  case allocH => rfl
  case newPerm => rfl
  case mkmap => rfl
  case boxV x => simp only [runOp, effOp]; cases x.eval s.E <;> rfl
  case boxH x => simp only [runOp, effOp]; cases x.eval s.E <;> rfl
  case faddr off x => simp only [runOp, effOp]; cases addrOf s.E x <;> rfl
  case store n x v =>
    simp only [runOp, effOp, Option.bind_assoc]
    cases addrF s.E mT mA x with
    | none => rfl
    | some a =>
      simp only [Option.bind_some]
      cases v.eval s.E with
      | none => rfl
      | some v =>
        simp only [Option.bind_some]
        split
        · rw [putE_eq]; cases AV.putE s.E s.H s.floor v.cells a <;> rfl
        · rfl
  case iaddrA len sz x i =>
    simp only [runOp, effOp]
    cases addrOf s.E x with
    | none => rfl
    | some a =>
      simp only [Option.bind_some]
      cases i.eval s.E with
      | none => rfl
      | some i =>
        simp only [Option.bind_some]
        cases idx? i len <;> rfl
  case nilchk x =>
    simp only [runOp, effOp]
    cases addrOf s.E x with
    | some a => rfl
    | none => exact pv _
  case buildS mu sz len zero parts =>
    simp only [runOp, effOp]
    cases evalParts s.E parts with
    | none => rfl
    | some ps =>
      simp only [Option.bind_some]
      cases fillV zero ps with
      | none => rfl
      | some cs =>
        simp only [Option.bind_some]
        split
        · split <;> rfl
        · rfl
  case mkslice sz zero len =>
    simp only [runOp, effOp]
    cases len.eval s.E with
    | none => rfl
    | some v =>
      simp only [Option.bind_some]
      cases idx? v room <;> rfl
  case append md sz x y =>
    simp only [runOp, effOp]
    cases x.eval s.E with
    | none => rfl
    | some xv =>
      simp only [Option.bind_some]
      cases y.eval s.E with
      | none => rfl
      | some yv =>
        simp only [Option.bind_some]
        cases elemsOf s.H sz yv with
        | none => rfl
        | some new =>
          simp only [Option.bind_some]
          cases xv
          case list p es =>
            simp only
            split
            · rfl
            · split
              · cases p with
                | no => rfl
                | full => simp only; split <;> (try rfl); split <;> rfl
                | own b =>
                  simp only
                  cases s.H b with
                  | none => rfl
                  | some K =>
                    cases K with
                    | perm => simp only; split <;> rfl
                    | cells => rfl
                    | map => rfl
              · rfl
          case buf => simp only; split <;> rfl
          all_goals rfl
  case sliceA len sz x lo hi =>
    simp only [runOp, effOp]
    cases addrOf s.E x with
    | none => rfl
    | some a =>
      simp only [Option.bind_some]
      cases bnd? s.E hi len len with
      | none => rfl
      | some h =>
        simp only [Option.bind_some]
        cases bnd? s.E lo 0 h with
        | none => rfl
        | some l =>
          simp only [Option.bind_some]
          cases a with
          | loc => rfl
          | ref => rfl
          | imm cs => simp only; cases getCells cs (l * sz) ((h - l) * sz) <;> rfl
  case mapupd ks x k v =>
    simp only [runOp, effOp]
    cases x.eval s.E with
    | none => rfl
    | some m =>
      simp only [Option.bind_some]
      cases k.eval s.E with
      | none => rfl
      | some k =>
        simp only [Option.bind_some]
        cases v.eval s.E with
        | none => rfl
        | some v =>
          simp only [Option.bind_some]
          cases m
          case mapr b =>
            simp only
            cases s.H b with
            | none => rfl
            | some K =>
              cases K with
              | map es =>
                simp only
                split
                · cases mapSet ks k v es <;> rfl
                · rfl
              | cells => rfl
              | perm => rfl
          all_goals rfl
  case mapdel ks x k =>
    simp only [runOp, effOp]
    cases x.eval s.E with
    | none => rfl
    | some m =>
      simp only [Option.bind_some]
      cases k.eval s.E with
      | none => rfl
      | some k =>
        simp only [Option.bind_some]
        cases m
        case mapr b =>
          simp only
          cases s.H b with
          | none => rfl
          | some K =>
            cases K with
            | map es =>
              simp only
              split
              · cases mapDel ks k es <;> rfl
              · rfl
            | cells => rfl
            | perm => rfl
        all_goals rfl
  all_goals exact pv _

section
variable {nl : List (Nat × Nat)} {tT : T IFunc} {tbl : Nat → Option IFunc}

/-- What the tree's machine does is what the machine does. -/
def SameCall (cf : CallFF) (c : CallF) : Prop := ∀ f args h, c f args h.hs = (cf f args h).map fun r => (r.1, r.2.hs)

theorem drop_get (H : T Blk) : ∀ (l : List Nat) (b : Nat), (dropAll H l).get b = if l.contains b then none else H.get b
  | [], b => rfl
  | c :: l, b => by
    simp only [dropAll, T.get_put, drop_get H l b, List.contains_cons]
    by_cases h : b = c
    · simp [h]
    · simp [h]

theorem back_get (H0 H : T Blk) : ∀ (l : List Nat) (b : Nat), (backAll H0 H l).get b = if l.contains b then H0.get b else H.get b
  | [], b => rfl
  | c :: l, b => by
    simp only [backAll, T.get_put, back_get H0 H l b, List.contains_cons]
    by_cases h : b = c
    · simp [h]
    · simp [h]

theorem mask_eq (E : Nat → Slot) (base : Nat) (mT mA : List Nat) (b : Nat) : maskIds E base mT mA b = (maskL E base mT mA).contains b := by
  have h1 : ∀ l : List Nat, (l.any fun a => b == base + a) = (l.map (base + ·)).contains b := by
    intro l; induction l with
    | nil => rfl
    | cons a l ih => simp only [List.any_cons, List.map_cons, List.contains_cons, ih]
  have h2 : ∀ l : List Nat, (l.any fun t => (E t).names b) = (l.filterMap fun t => refB (E t)).contains b := by
    intro l; induction l with
    | nil => rfl
    | cons t l ih =>
      rw [List.any_cons, List.filterMap_cons, ih]
      generalize (l.filterMap fun t => refB (E t)) = L
      cases hE : E t with
      | val v => cases v <;> simp [Slot.names, refB] <;> rfl
      | _ => simp [Slot.names, refB]
  have h3 : ∀ l k : List Nat, (l ++ k).contains b = (l.contains b || k.contains b) := by
    intro l k; induction l with
    | nil => simp
    | cons a l ih => simp [ih, Bool.or_assoc]
  unfold maskIds maskL
  rw [h1, h2, h3]

theorem masked_eq {cf : CallFF} {c : CallF} (hc : SameCall cf c) (s : FS) (base : Nat) (mT mA : List Nat) (f : Nat) (args : List V) :
    callMasked c (maskIds s.e base mT mA) f args s.st = (callMF cf (maskL s.e base mT mA) f args s).map fun r => (r.1, r.2.st) := by
  have h0 : (⟨fun b => if maskIds s.e base mT mA b then none else s.st.H b, s.st.next, s.st.floor⟩ : HS) = (⟨dropAll s.H (maskL s.e base mT mA), s.next, s.floor⟩ : FH).hs := by
    simp only [FH.hs, FS.st, HS.mk.injEq, and_true]
    funext b
    rw [drop_get, mask_eq]
  unfold callMasked callMF
  rw [h0, hc]
  cases cf f args ⟨dropAll s.H (maskL s.e base mT mA), s.next, s.floor⟩ with
  | none => rfl
  | some r =>
    simp only [Option.map_some, Option.bind_some, Option.some.injEq, Prod.mk.injEq, true_and]
    simp only [FS.st, FH.hs, St.mk.injEq, and_true]
    refine ⟨rfl, ?_⟩
    funext b
    rw [back_get, mask_eq]

theorem slow_eq (c : CallF) (base : Nat) (o : IOper) (s : FS) (hn : noCall o.op = true) : runOp c base o s.st = (slowF base o s).map fun r => (r.1, r.2.st) := by
  rw [runOp_eff _ _ _ _ hn]
  unfold slowF
  rw [obind_eq]
  show (effOp base o s.e s.H.get s.floor).bind _ = _
  cases effOp base o s.e s.H.get s.floor with
  | none => rfl
  | some r => simp only [Option.bind_some, Option.map_some, eff_eq]

theorem op_eq {cf : CallFF} {c : CallF} (hc : SameCall cf c) (base : Nat) (o : IOper) (s : FS) : runOp c base o s.st = (runOpF cf base o s).map fun r => (r.1, r.2.st) := by
  obtain ⟨dst, guard, aid, mT, mA, op⟩ := o
  cases op
  case mov x =>
    simp only [runOp, runOpF, movR]
    cases x with
    | k v => rfl
    | t i =>
      show (match s.e i with | .val v => some (Slot.val v, s.st) | .lref t o => some (.lref t o, s.st) | .var _ => some (.lref i 0, s.st) | .undef => none) = Option.map _ (@Slot.rec (fun _ => Option (Slot × FS)) _ _ _ _ (s.e i))
      cases s.e i <;> rfl
  case bin op x y =>
    simp only [runOp, runOpF, binF, obind_eq, evF_eq]
    show ((x.eval s.e).bind fun x => (y.eval s.e).bind fun y => binV op x y).bind _ = _
    cases x.eval s.e with
    | none => rfl
    | some a =>
      simp only [Option.bind_some]
      cases y.eval s.e with
      | none => rfl
      | some b => simp only [Option.bind_some]; cases binV op a b <;> rfl
  case load agg n x =>
    simp only [runOp, runOpF, loadF, obind_eq]
    show ((addrF s.e mT mA x).bind fun a => (a.get s.e s.H.get n).bind (asVal agg)).bind _ = _
    cases addrF s.e mT mA x with
    | none => rfl
    | some a =>
      simp only [Option.bind_some]
      cases a.get s.e s.H.get n with
      | none => rfl
      | some cs => simp only [Option.bind_some]; cases asVal agg cs <;> rfl
  case faddr off x =>
    simp only [runOp, runOpF, faddrF, obind_eq]
    show (addrOf s.e x).bind _ = _
    cases addrOf s.e x <;> rfl
  case store n x v =>
    simp only [runOp, runOpF, storeF, obind_eq, evF_eq, bsel_eq]
    show ((addrF s.e mT mA x).bind fun a => (v.eval s.e).bind fun v => _) = _
    cases addrF s.e mT mA x with
    | none => rfl
    | some a =>
      simp only [Option.bind_some]
      cases v.eval s.e with
      | none => rfl
      | some v =>
        simp only [Option.bind_some]
        have hb : (Nat.beq v.cells.length n && v.cells.all V.one) = decide (v.cells.length = n ∧ v.cells.all V.one = true) := by
          rw [Bool.eq_iff_iff]
          simp only [Bool.and_eq_true, Nat.beq_eq, decide_eq_true_eq]
        rw [hb]
        by_cases h : v.cells.length = n ∧ v.cells.all V.one = true
        · rw [if_pos h, if_pos (decide_eq_true h), putE_eq]
          show ((a.putE s.e s.H.get s.floor v.cells).bind _).bind _ = _
          cases a.putE s.e s.H.get s.floor v.cells with
          | none => rfl
          | some e => simp only [Option.bind_some, Option.map_some, eff_eq]
        · rw [if_neg h, if_neg (by simpa using h)]; rfl
  case pick a b d =>
    simp only [runOp, runOpF, pickF, obind_eq, evF_eq, bsel_eq]
    show ((a.eval s.e).bind fun c => _).bind _ = _
    cases a.eval s.e with
    | none => rfl
    | some v =>
      simp only [Option.bind_some]
      cases v
      case bool c =>
        simp only
        show ((if c = true then b.eval s.e else d.eval s.e).bind _) = _
        cases (if c = true then b.eval s.e else d.eval s.e) <;> rfl
      all_goals rfl
  case extract i x =>
    simp only [runOp, runOpF, extractF, obind_eq, evF_eq]
    show ((x.eval s.e).bind fun v => _).bind _ = _
    cases x.eval s.e with
    | none => rfl
    | some v =>
      simp only [Option.bind_some]
      cases v
      case tup vs => simp only; cases vs[i]? <;> rfl
      all_goals rfl
  case len k x =>
    simp only [runOp, runOpF, lenF, obind_eq, evF_eq]
    show ((x.eval s.e).bind fun v => lenR s.H.get k v).bind _ = _
    cases x.eval s.e with
    | none => rfl
    | some v => simp only [Option.bind_some]; cases lenR s.H.get k v <;> rfl
  case allocV zero => rfl
  case boxV x =>
    simp only [runOp, runOpF, obind_eq, evF_eq]
    show (x.eval s.e).bind _ = _
    cases x.eval s.e <;> rfl
  case call f args =>
    simp only [runOp, runOpF, callOpF, obind_eq, evsF_eq]
    show ((Opd.evals s.e args).bind fun vs => (callMasked c (maskIds s.e base mT mA) f vs s.st).bind fun r => some (Slot.val r.1, r.2)) = _
    cases Opd.evals s.e args with
    | none => rfl
    | some vs =>
      simp only [Option.bind_some, masked_eq hc]
      cases callMF cf (maskL s.e base mT mA) f vs s <;> rfl
  case callv x args =>
    simp only [runOp, runOpF, callvOpF, obind_eq, evF_eq, evsF_eq]
    show ((x.eval s.e).bind fun v => (Opd.evals s.e args).bind fun vs => _) = _
    cases x.eval s.e with
    | none => rfl
    | some v =>
      simp only [Option.bind_some]
      cases Opd.evals s.e args with
      | none => rfl
      | some vs =>
        simp only [Option.bind_some]
        cases v
        case fn f cap =>
          simp only
          show (callMasked c (maskIds s.e base mT mA) f (vs ++ cap) s.st).bind _ = _
          rw [masked_eq hc]
          cases callMF cf (maskL s.e base mT mA) f (vs ++ cap) s <;> rfl
        all_goals rfl
  all_goals exact slow_eq c base _ s rfl

theorem stepOp_eq {cf : CallFF} {c : CallF} (hc : SameCall cf c) (base : Nat) (o : IOper) (s : FS) : stepOp c base o s.st = (stepOpF cf base o s).map FS.st := by
  have run : ((runOp c base o s.st).bind fun r => put r.2 o.dst r.1) = (obind (runOpF cf base o s) fun r => r.2.put o.dst r.1).map FS.st := by
    rw [op_eq hc, obind_eq]
    cases runOpF cf base o s with
    | none => rfl
    | some r => simp only [Option.map_some, Option.bind_some, put_eq]
  unfold stepOp stepOpF
  cases hg : o.guard with
  | none =>
    simp only [guardOk, wants, if_true]
    exact run
  | some g =>
    show (if guardOk s.e (some g) then _ else _) = Option.map FS.st (bsel (guardOk s.e (some g)) (bsel (wants s.e (some g)) _ _) none)
    rw [bsel_eq, bsel_eq]
    by_cases h1 : guardOk s.e (some g) = true
    · rw [if_pos h1, if_pos h1]
      by_cases h2 : wants s.e (some g) = true
      · rw [if_pos h2]
        show (if wants s.e (some g) then _ else _) = _
        rw [if_pos h2]
        exact run
      · rw [if_neg h2]
        show (if wants s.e (some g) then _ else _) = _
        rw [if_neg h2]
        exact put_eq s o.dst _
    · rw [if_neg h1, if_neg h1]; rfl

theorem stepOps_eq {cf : CallFF} {c : CallF} (hc : SameCall cf c) (base : Nat) : ∀ (os : List IOper) (s : FS), stepOps c base os s.st = (stepOpsF cf base os s).map FS.st
  | [], s => rfl
  | o :: os, s => by
    show (stepOp c base o s.st).bind _ = Option.map FS.st (obind (stepOpF cf base o s) (stepOpsF cf base os))
    rw [stepOp_eq hc, obind_eq]
    cases stepOpF cf base o s with
    | none => rfl
    | some t => simp only [Option.map_some, Option.bind_some, stepOps_eq hc base os t]

noncomputable def rst (r : Ex × FS) : Ex × St := (r.1, r.2.st)

theorem lim_get (live : List Nat) (E : Nat → Slot) : ∀ (l : List Nat) (j : Nat), ((limF live E l).get j).getD .undef = mkEnv (limEnv live E l) j
  | [], j => rfl
  | i :: l, j => by
    show (((limF live E l).put i (some ((E i).clean live))).get j).getD .undef = if j = i then _ else _
    rw [T.get_put]
    by_cases h : j = i
    · rw [if_pos h, if_pos h]; rfl
    · rw [if_neg h, if_neg h]; exact lim_get live E l j

theorem lim_st (live : List Nat) (s : FS) : (⟨limF live s.e live, s.H, s.next, s.floor⟩ : FS).st = { s.st with E := lim live s.st.E } := by
  simp only [FS.st, St.mk.injEq, and_true]
  funext j
  rw [e_eq]
  exact lim_get live s.e live j

theorem iter_eq {f : St → Option (Ex × St)} {g : FS → Option (Ex × FS)} (h : ∀ s, f s.st = (g s).map rst) : ∀ (n : Nat) (s : FS), iterN n f s.st = (iterF n g s).map rst
  | 0, s => rfl
  | n + 1, s => by
    show (f s.st).bind _ = Option.map rst (obind (g s) (afterF (iterF n g)))
    rw [h, obind_eq]
    cases g s with
    | none => rfl
    | some r =>
      obtain ⟨e, t⟩ := r
      simp only [Option.map_some, Option.bind_some]
      cases e with
      | normal => exact iter_eq h n t
      | exit i => rfl
      | ret => rfl

theorem exec_eq {cf : CallFF} {c : CallF} (hc : SameCall cf c) (lf : Nat) : ∀ (code : ICode) (s : FS), exec c lf code s.st = (execF cf lf code s).map rst
  | .skip, s => rfl
  | .exit id, s => rfl
  | .ret, s => rfl
  | .reg d na ops, s => by
    show (stepOps c s.next ops { s.st with next := s.next + na }).bind _ = Option.map rst (obind (stepOpsF cf s.next ops ⟨s.E, s.H, s.next + na, s.floor⟩) fun s' => some (.normal, s'))
    rw [show ({ s.st with next := s.next + na } : St) = (⟨s.E, s.H, s.next + na, s.floor⟩ : FS).st from rfl, stepOps_eq hc, obind_eq]
    cases stepOpsF cf s.next ops ⟨s.E, s.H, s.next + na, s.floor⟩ <;> rfl
  | .seq a b, s => by
    show (exec c lf a s.st).bind _ = Option.map rst (obind (execF cf lf a s) (afterF (execF cf lf b)))
    rw [exec_eq hc lf a s, obind_eq]
    cases execF cf lf a s with
    | none => rfl
    | some r =>
      obtain ⟨e, t⟩ := r
      cases e with
      | normal => exact exec_eq hc lf b t
      | exit i => rfl
      | ret => rfl
  | .cond x a b, s => by
    show condV (x.eval s.e) (exec c lf a s.st) (exec c lf b s.st) = Option.map rst (condF (evF s.E x) (execF cf lf a s) (execF cf lf b s))
    rw [exec_eq hc lf a s, exec_eq hc lf b s, evF_eq]
    cases x.eval s.e with
    | none => rfl
    | some v =>
      cases v
      case bool t => simp only [condV, condF, bsel_eq]; cases t <;> rfl
      all_goals rfl
  | .block id a, s => by
    show (exec c lf a s.st).bind _ = Option.map rst (obind (execF cf lf a s) (blockF id))
    rw [exec_eq hc lf a s, obind_eq]
    cases execF cf lf a s with
    | none => rfl
    | some r =>
      obtain ⟨e, t⟩ := r
      cases e with
      | normal => rfl
      | exit i =>
        show some ((if i = id then Ex.normal else .exit i), t.st) = some ((bsel (Nat.beq i id) Ex.normal (.exit i)), t.st)
        rw [bsel_eq]
        by_cases h : i = id
        · subst h; simp
        · have : Nat.beq i id = false := by cases hb : Nat.beq i id with | true => exact absurd (Nat.eq_of_beq_eq_true hb) h | false => rfl
          simp [h, this]
      | ret => rfl
  | .loop live a, s => by
    show iterN lf (fun s => exec c lf a { s with E := lim live s.E }) s.st = Option.map rst (iterF lf (fun s => execF cf lf a ⟨limF live s.e live, s.H, s.next, s.floor⟩) s)
    refine iter_eq (fun t => ?_) lf s
    rw [← exec_eq hc lf a ⟨limF live t.e live, t.H, t.next, t.floor⟩, lim_st]
  | .lim live a, s => by
    show (exec c lf a s.st).bind _ = Option.map rst (obind (execF cf lf a s) (afterF fun s => some (.normal, ⟨limF live s.e live, s.H, s.next, s.floor⟩)))
    rw [exec_eq hc lf a s, obind_eq]
    cases execF cf lf a s with
    | none => rfl
    | some r =>
      obtain ⟨e, t⟩ := r
      cases e with
      | normal =>
        show some (Ex.normal, { t.st with E := lim live t.st.E }) = some (Ex.normal, (⟨limF live t.e live, t.H, t.next, t.floor⟩ : FS).st)
        rw [lim_st]
      | exit i => rfl
      | ret => rfl

theorem readRes_eq (s : FS) : ∀ l : List IRes, readRes s.st l = readResF s l
  | [] => rfl
  | .tmp t :: l => by simp only [readRes, readResF, readRes_eq s l]; rfl
  | .cell agg n t :: l => by simp only [readRes, readResF, readRes_eq s l]; rfl

theorem arg_get : ∀ (i : Nat) (l : List V) (j : Nat), ((argT i l).get j).getD .undef = mkEnv (argEnv i l) j
  | _, [], _ => rfl
  | i, v :: vs, j => by
    simp only [argT, T.get_put, argEnv, mkEnv]
    by_cases h : j = i
    · rw [if_pos h, if_pos h]; rfl
    · rw [if_neg h, if_neg h]; exact arg_get (i + 1) vs j

theorem run_eq {cf : CallFF} {c : CallF} (hc : SameCall cf c) (lf : Nat) (fn : IFunc) (args : List V) (h : FH) : runFn c lf fn args h.hs = (runFnF cf lf fn args h).map fun r => (r.1, r.2.hs) := by
  have h0 : (⟨mkEnv (argEnv 0 args), h.hs.H, h.hs.next, h.hs.floor⟩ : St) = (⟨argT 0 args, h.H, h.next, h.floor⟩ : FS).st := by
    simp only [FS.st, FH.hs, St.mk.injEq, and_true]
    funext j
    rw [e_eq, arg_get]
  unfold runFn runFnF
  rw [h0, exec_eq hc, obind_eq]
  cases execF cf lf fn.body ⟨argT 0 args, h.H, h.next, h.floor⟩ with
  | none => rfl
  | some r =>
    obtain ⟨e, t⟩ := r
    cases e with
    | exit i => rfl
    | normal =>
      show (readRes t.st fn.results).bind _ = Option.map _ ((readResF t fn.results).bind _)
      rw [readRes_eq]
      cases readResF t fn.results <;> rfl
    | ret =>
      show (readRes t.st fn.results).bind _ = Option.map _ ((readResF t fn.results).bind _)
      rw [readRes_eq]
      cases readResF t fn.results <;> rfl

theorem nat_eq : ∀ f args (h : FH), natOf nl f args h.hs = (natF nl f args h).map fun r => (r.1, r.2.hs) := by
  intro f args h
  unfold natOf natF
  cases nl.find? (·.1 == f) with
  | none => rfl
  | some p =>
    obtain ⟨g, sz⟩ := p
    simp only
    unfold cloneR cloneF
    split
    · rename_i p es
      simp only
      split
      · rfl
      · split
        · simp only [Option.map_some, Option.some.injEq, Prod.mk.injEq, FH.hs, HS.mk.injEq, and_true, true_and]
          funext b
          simp only [T.get_put, upd]
        · rfl
    · rename_i hne
      split
      · rename_i p es; exact absurd rfl (hne p es)
      · rfl

theorem callF_same (ht : ∀ f, tT.get f = tbl f) : ∀ n, SameCall (callF nl tT n) (callN (natOf nl) tbl n)
  | 0 => fun f args h => rfl
  | n + 1 => fun f args h => by
    have ih := callF_same ht n
    show callN (natOf nl) tbl (n + 1) f args h.hs = Option.map _ (bodyF nl tT n (callF nl tT n) f args h)
    unfold bodyF
    simp only [callN]
    rw [ht f]
    cases tbl f with
    | none =>
      simp only
      rw [nat_eq]
      cases natF nl f args h <;> rfl
    | some fn =>
      obtain ⟨mode, body, res⟩ := fn
      rcases mode with _ | _ | m
      · simp only
        cases sealL 0 cv0 args with
        | none => rfl
        | some as =>
          simp only [Option.bind_some]
          have hr := run_eq ih n ⟨0, body, res⟩ as ⟨.leaf, 0, 0⟩
          rw [show (⟨fun _ => none, 0, 0⟩ : HS) = (⟨.leaf, 0, 0⟩ : FH).hs from rfl, hr]
          cases runFnF (callF nl tT n) n ⟨0, body, res⟩ as ⟨.leaf, 0, 0⟩ with
          | none => rfl
          | some r =>
            simp only [Option.map_some, Option.bind_some]
            show (sealV 0 (cvH 0 r.2.H.get) r.1).bind _ = _
            cases sealV 0 (cvH 0 r.2.H.get) r.1 <;> rfl
      · simp only
        have hr := run_eq ih n ⟨1, body, res⟩ args ⟨h.H, h.next, h.next⟩
        rw [show (⟨h.hs.H, h.hs.next, h.hs.next⟩ : HS) = (⟨h.H, h.next, h.next⟩ : FH).hs from rfl, hr]
        show _ = Option.map _ ((runFnF (callF nl tT n) n ⟨1, body, res⟩ args ⟨h.H, h.next, h.next⟩).bind _)
        cases runFnF (callF nl tT n) n ⟨1, body, res⟩ args ⟨h.H, h.next, h.next⟩ with
        | none => rfl
        | some r =>
          simp only [Option.map_some, Option.bind_some]
          show (sealV h.next (cvH h.next r.2.H.get) r.1).bind _ = _
          cases sealV h.next (cvH h.next r.2.H.get) r.1 <;> rfl
      · exact run_eq ih n ⟨m + 2, body, res⟩ args h

/-- A closed call that answers a bool. -/
def isTrue : Option (V × FH) → Bool
  | some (.bool b, _) => b
  | _ => false

theorem callF_true (ht : ∀ f, tT.get f = tbl f) {n f : Nat} {args : List V} {h : FH} (hk : isTrue (callF nl tT n f args h) = true) : ∃ h', callN (natOf nl) tbl n f args h.hs = some (.bool true, h') := by
  rw [callF_same ht n f args h]
  unfold isTrue at hk
  split at hk
  · rename_i b h' heq
    subst hk
    rw [heq]
    exact ⟨h'.hs, rfl⟩
  · cases hk
end
end Go.Abs
