/-
  RULES FOR WALKING THE LEAN IR BY SIMP: what follows an operation is handed on as a function.
-/
import Derived.Test.YtagmcgbbgjkdbaaDen0
import Derived.Test.YtagmcgbbgjkdbaaNat0
set_option linter.all false
namespace Go.Abs
open Go

section
variable {R : Type} {C : CallF} {l : List (Nat × Slot)} {H : Nat → Option Blk} {nx fl base : Nat}

def putK (s : St) (d : Option Nat) (x : Slot) (k : St → Option R) : Option R := (put s d x).bind k
def evK (E : Nat → Slot) (x : Opd) (k : V → Option R) : Option R := (x.eval E).bind k
def evsK (E : Nat → Slot) (xs : List Opd) (k : List V → Option R) : Option R := (Opd.evals E xs).bind k
def opK (C : CallF) (base : Nat) (o : IOper) (s : St) (k : St → Option R) : Option R := (stepOp C base o s).bind k
def opsK (C : CallF) (base : Nat) (os : List IOper) (s : St) (k : St → Option R) : Option R := (stepOps C base os s).bind k
def runK (C : CallF) (base : Nat) (o : IOper) (s : St) (k : Slot → St → Option R) : Option R := (runOp C base o s).bind fun r => k r.1 r.2
noncomputable def execK (C : CallF) (c : ICode) (s : St) (k : Ex → St → Option R) : Option R := (execI C c s).bind fun r => k r.1 r.2
def movK (i : Nat) (x : Slot) (k : Slot → Option R) : Option R := match x with
  | .val v => k (.val v)
  | .lref t o => k (.lref t o)
  | .var _ => k (.lref i 0)
  | .undef => none
def valK (x : Slot) (k : V → Option R) : Option R := match x with
  | .val v => k v
  | _ => none
/-- What is behind a test, held so that simp does not look at it. -/
class Br (R : Type) where
  get : Option R
/-- A test: what is behind it is not looked at till it is decided. -/
def cK (c : Bool) [a : Br R] [b : Br R] : Option R := if c then a.get else b.get
@[simp] theorem cK_true (a b : Option R) : @cK R true ⟨a⟩ ⟨b⟩ = a := _root_.id rfl
@[simp] theorem cK_false (a b : Option R) : @cK R false ⟨a⟩ ⟨b⟩ = b := _root_.id rfl
theorem cK_split {c : Bool} {a b r : Option R} (h1 : c = true → a = r) (h2 : c = false → b = r) : @cK R c ⟨a⟩ ⟨b⟩ = r := by
  cases c
  · exact h2 rfl
  · exact h1 rfl
@[simp] theorem cK_not (c : Bool) (a b : Option R) : @cK R (!c) ⟨a⟩ ⟨b⟩ = @cK R c ⟨b⟩ ⟨a⟩ := by cases c <;> rfl
theorem cK_dec {c : Prop} [Decidable c] {a b r : Option R} (h1 : c → a = r) (h2 : ¬ c → b = r) : @cK R (decide c) ⟨a⟩ ⟨b⟩ = r := by
  by_cases h : c
  · simp only [h, decide_true, cK_true]; exact h1 h
  · simp only [h, decide_false, cK_false]; exact h2 h
def condK (v : V) [a : Br R] [b : Br R] : Option R := match v with
  | .bool c => @cK R c a b
  | _ => none
def Slot.isVar : Slot → Bool
  | .var _ => true
  | _ => false
def nextK (k : Ex → St → Option R) (b : St → Option R) (e : Ex) (s : St) : Option R := match e with
  | .normal => b s
  | e => k e s
def addrK (i : Nat) (x : Slot) (k : AV → Option R) : Option R := match x with
  | .var _ => k (.loc i 0)
  | .lref t o => k (.loc t o)
  | .val (.ref b o) => k (.ref b o)
  | .val (.pim cs) => k (.imm cs)
  | _ => none
def fenceK (E : Nat → Slot) (mT mA : List Nat) (k : AV → Option R) (a : AV) : Option R := if fence E mT mA a then k a else none
def toVar (i : Nat) (x : Slot) : Slot := x

@[simp] theorem mkEnv_nil {j : Nat} : mkEnv [] j = .undef := _root_.id rfl
@[simp] theorem mkEnv_cons {i j : Nat} {x : Slot} : mkEnv ((i, x) :: l) j = if j = i then x else mkEnv l j := _root_.id rfl
@[simp] theorem upd_mkEnv {i : Nat} {x : Slot} : upd (mkEnv l) i x = mkEnv ((i, x) :: l) := _root_.id rfl

@[simp] theorem execK_skip (s : St) (k : Ex → St → Option R) : execK C .skip s k = k .normal s := _root_.id rfl
@[simp] theorem execK_exit (i : Nat) (s : St) (k : Ex → St → Option R) : execK C (.exit i) s k = k (.exit i) s := _root_.id rfl
@[simp] theorem execK_ret (s : St) (k : Ex → St → Option R) : execK C .ret s k = k .ret s := _root_.id rfl
@[simp] theorem execK_reg (E : Nat → Slot) (d : Bool) (na : Nat) (ops : List IOper) (k : Ex → St → Option R) :
    execK C (.reg d na ops) ⟨E, H, nx, fl⟩ k = opsK C nx ops ⟨E, H, nx + na, fl⟩ (k .normal) := by
  simp only [execK, execI, opsK, Option.bind_assoc, Option.bind_some]
@[simp] theorem nextK_normal (k : Ex → St → Option R) (b : St → Option R) (s : St) : nextK k b .normal s = b s := _root_.id rfl
@[simp] theorem nextK_exit (k : Ex → St → Option R) (b : St → Option R) (i : Nat) (s : St) : nextK k b (.exit i) s = k (.exit i) s := _root_.id rfl
@[simp] theorem nextK_ret (k : Ex → St → Option R) (b : St → Option R) (s : St) : nextK k b .ret s = k .ret s := _root_.id rfl
@[simp] theorem execK_seq (a b : ICode) (s : St) (k : Ex → St → Option R) : execK C (.seq a b) s k = execK C a s (nextK k fun s => execK C b s k) := by
  simp only [execK, execI, Option.bind_assoc]
  cases execI C a s with
  | none => rfl
  | some r => obtain ⟨e, t⟩ := r; cases e <;> rfl
@[simp] theorem execK_cond (c : Opd) (a b : ICode) (s : St) (k : Ex → St → Option R) : execK C (.cond c a b) s k = evK s.E c fun v => @condK R v ⟨execK C a s k⟩ ⟨execK C b s k⟩ := by
  simp only [execK, execI, condV, evK]
  cases c.eval s.E with
  | none => rfl
  | some v =>
    cases v
    case bool t => cases t <;> rfl
    all_goals rfl
@[simp] theorem condK_bool (c : Bool) (a b : Option R) : @condK R (.bool c) ⟨a⟩ ⟨b⟩ = @cK R c ⟨a⟩ ⟨b⟩ := _root_.id rfl

def blockK (id : Nat) (k : Ex → St → Option R) (e : Ex) (s : St) : Option R := match e with
  | .exit i => k (if i = id then .normal else .exit i) s
  | e => k e s
@[simp] theorem blockK_normal (id : Nat) (k : Ex → St → Option R) (s : St) : blockK id k .normal s = k .normal s := _root_.id rfl
@[simp] theorem blockK_ret (id : Nat) (k : Ex → St → Option R) (s : St) : blockK id k .ret s = k .ret s := _root_.id rfl
@[simp] theorem blockK_exit (id i : Nat) (k : Ex → St → Option R) (s : St) : blockK id k (.exit i) s = k (if i = id then .normal else .exit i) s := _root_.id rfl
@[simp] theorem execK_block (id : Nat) (a : ICode) (s : St) (k : Ex → St → Option R) : execK C (.block id a) s k = execK C a s (blockK id k) := by
  simp only [execK, execI, Option.bind_assoc]
  cases execI C a s with
  | none => rfl
  | some r => obtain ⟨e, t⟩ := r; cases e <;> rfl
def limK (live : List Nat) (k : Ex → St → Option R) (e : Ex) (s : St) : Option R := match e with
  | .normal => k .normal { s with E := lim live s.E }
  | e => k e s
@[simp] theorem limK_normal (live : List Nat) (k : Ex → St → Option R) (E : Nat → Slot) : limK live k .normal ⟨E, H, nx, fl⟩ = k .normal ⟨lim live E, H, nx, fl⟩ := _root_.id rfl
@[simp] theorem limK_ret (live : List Nat) (k : Ex → St → Option R) (s : St) : limK live k .ret s = k .ret s := _root_.id rfl
@[simp] theorem limK_exit (live : List Nat) (i : Nat) (k : Ex → St → Option R) (s : St) : limK live k (.exit i) s = k (.exit i) s := _root_.id rfl
@[simp] theorem execK_lim (live : List Nat) (a : ICode) (s : St) (k : Ex → St → Option R) : execK C (.lim live a) s k = execK C a s (limK live k) := by
  simp only [execK, execI, Option.bind_assoc]
  cases execI C a s with
  | none => rfl
  | some r => obtain ⟨e, t⟩ := r; cases e <;> rfl

/-- A loop: from a state on. -/
noncomputable def loopK (C : CallF) (live : List Nat) (a : ICode) (s : St) (k : Ex → St → Option R) : Option R := (execI C (.loop live a) s).bind fun r => k r.1 r.2
@[simp] theorem execK_loop (live : List Nat) (a : ICode) (E : Nat → Slot) (k : Ex → St → Option R) :
    execK C (.loop live a) ⟨E, H, nx, fl⟩ k = loopK C live a ⟨lim live E, H, nx, fl⟩ k := by
  have h : execI C (.loop live a) ⟨E, H, nx, fl⟩ = execI C (.loop live a) ⟨lim live E, H, nx, fl⟩ := by
    simp only [execI]
    rw [iterI_eq, iterI_eq _ ⟨lim live E, H, nx, fl⟩]
    have : lim live (lim live E) = lim live E := by
      funext j
      have key : ∀ (l : List Nat) (E : Nat → Slot), (∀ x ∈ l, x ∈ live) → ∀ j, mkEnv (limEnv live (lim live E) l) j = mkEnv (limEnv live E l) j := by
        intro l E hl j
        induction l with
        | nil => rfl
        | cons i l ih =>
          simp only [limEnv, mkEnv]
          split
          · have hi : i ∈ live := hl i List.mem_cons_self
            have look : ∀ l : List Nat, i ∈ l → mkEnv (limEnv live E l) i = (E i).clean live := by
              intro l hm
              induction l with
              | nil => cases hm
              | cons b l ih2 =>
                simp only [limEnv, mkEnv]
                split
                · rename_i h; rw [h]
                · rename_i h; exact ih2 ((List.mem_cons.1 hm).resolve_left h)
            unfold lim
            rw [look live hi]
            cases E i <;> simp only [Slot.clean]
            rename_i t o
            by_cases h : live.contains t = true
            · rw [if_pos h]; simp only [Slot.clean, h, if_true]
            · rw [if_neg h]
          · exact ih fun x hx => hl x (List.mem_cons_of_mem _ hx)
      exact key live E (fun _ h => h) j
    rw [this]
  simp only [execK, loopK, h]

/-- One round of a loop. -/
theorem loopK_eq (live : List Nat) (a : ICode) (E : Nat → Slot) (k : Ex → St → Option R) :
    loopK C live a ⟨E, H, nx, fl⟩ k = execK C a ⟨lim live E, H, nx, fl⟩ (nextK k fun s => execK C (.loop live a) s k) := by
  simp only [loopK, execI, execK]
  rw [iterI_eq]
  cases execI C a ⟨lim live E, H, nx, fl⟩ with
  | none => rfl
  | some r => obtain ⟨e, t⟩ := r; cases e <;> rfl

@[simp] theorem lim_mk (live : List Nat) (E : Nat → Slot) : lim live E = mkEnv (limEnv live E live) := _root_.id rfl
@[simp] theorem limEnv_nil (live : List Nat) (E : Nat → Slot) : limEnv live E [] = [] := _root_.id rfl
@[simp] theorem limEnv_cons (live : List Nat) (E : Nat → Slot) (i : Nat) (l : List Nat) : limEnv live E (i :: l) = (i, (E i).clean live) :: limEnv live E l := _root_.id rfl
@[simp] theorem clean_val (live : List Nat) (v : V) : Slot.clean live (.val v) = .val v := _root_.id rfl
@[simp] theorem clean_var (live : List Nat) (cs : List V) : Slot.clean live (.var cs) = .var cs := _root_.id rfl
@[simp] theorem clean_undef (live : List Nat) : Slot.clean live .undef = .undef := _root_.id rfl
@[simp] theorem clean_lref (live : List Nat) (t o : Nat) : Slot.clean live (.lref t o) = if live.contains t then .lref t o else .undef := _root_.id rfl

@[simp] theorem opsK_nil (s : St) (k : St → Option R) : opsK C base [] s k = k s := _root_.id rfl
@[simp] theorem opsK_cons (o : IOper) (os : List IOper) (s : St) (k : St → Option R) : opsK C base (o :: os) s k = opK C base o s fun s => opsK C base os s k := by
  simp only [opsK, opK, stepOps, Option.bind_assoc]

@[simp] theorem putK_none (s : St) (x : Slot) (k : St → Option R) : putK s none x k = k s := _root_.id rfl
@[simp] theorem putK_some (E : Nat → Slot) (d : Nat) (x : Slot) (k : St → Option R) : putK ⟨E, H, nx, fl⟩ (some d) x k = if (E d).isVar then none else k ⟨upd E d x, H, nx, fl⟩ := by
  simp only [putK, put]
  cases h : E d <;> simp [Slot.isVar]
@[simp] theorem isVar_val (v : V) : Slot.isVar (.val v) = false := _root_.id rfl
@[simp] theorem isVar_var (cs : List V) : Slot.isVar (.var cs) = true := _root_.id rfl
@[simp] theorem isVar_lref (t o : Nat) : Slot.isVar (.lref t o) = false := _root_.id rfl
@[simp] theorem isVar_undef : Slot.isVar .undef = false := _root_.id rfl

@[simp] theorem opK_one (d : Option Nat) (aid : Nat) (mT mA : List Nat) (op : IOp) (s : St) (k : St → Option R) :
    opK C base ⟨d, none, aid, mT, mA, op⟩ s k = runK C base ⟨d, none, aid, mT, mA, op⟩ s fun x s => putK s d x k := by
  simp only [opK, stepOp, guardOk, wants, if_true, runK, putK, Option.bind_assoc]
def guardK (x : Slot) (want : Bool) [yes : Br R] [no : Br R] : Option R := match x with
  | .val (.bool b) => @cK R (b == want) yes no
  | .val .undef => no.get
  | _ => none
@[simp] theorem guardK_bool (b want : Bool) (yes no : Option R) : @guardK R (.val (.bool b)) want ⟨yes⟩ ⟨no⟩ = @cK R (b == want) ⟨yes⟩ ⟨no⟩ := _root_.id rfl
@[simp] theorem guardK_undef (want : Bool) (yes no : Option R) : @guardK R (.val .undef) want ⟨yes⟩ ⟨no⟩ = no := _root_.id rfl
@[simp] theorem opK_guard (d : Option Nat) (j : Nat) (w : Bool) (aid : Nat) (mT mA : List Nat) (op : IOp) (s : St) (k : St → Option R) :
    opK C base ⟨d, some (j, w), aid, mT, mA, op⟩ s k = @guardK R (s.E j) w ⟨opK C base ⟨d, none, aid, mT, mA, op⟩ s k⟩ ⟨putK s d (.val .undef) k⟩ := by
  have e1 : stepOp C base ⟨d, none, aid, mT, mA, op⟩ s = (runOp C base ⟨d, some (j, w), aid, mT, mA, op⟩ s).bind fun r => put r.2 d r.1 := _root_.id rfl
  have e2 : stepOp C base ⟨d, some (j, w), aid, mT, mA, op⟩ s = if guardOk s.E (some (j, w)) then (if wants s.E (some (j, w)) then (runOp C base ⟨d, some (j, w), aid, mT, mA, op⟩ s).bind fun r => put r.2 d r.1 else put s d (.val .undef)) else none := _root_.id rfl
  show (stepOp C base ⟨d, some (j, w), aid, mT, mA, op⟩ s).bind k = @guardK R (s.E j) w ⟨(stepOp C base ⟨d, none, aid, mT, mA, op⟩ s).bind k⟩ ⟨(put s d (.val .undef)).bind k⟩
  rw [e1, e2]
  generalize (runOp C base ⟨d, some (j, w), aid, mT, mA, op⟩ s).bind (fun r => put r.2 d r.1) = X
  cases h : s.E j with
  | val v =>
    cases v
    case bool b =>
      by_cases hb : (b == w) = true
      · simp only [guardOk, wants, guardK, cK, h, hb, if_true]
      · simp only [guardOk, wants, guardK, cK, h, hb, if_true, if_false, Bool.false_eq_true]
    all_goals simp [guardOk, wants, guardK, h]
  | _ => simp [guardOk, guardK, h]

@[simp] theorem evK_k (E : Nat → Slot) (v : V) (k : V → Option R) : evK E (.k v) k = k v := _root_.id rfl
@[simp] theorem evK_t (E : Nat → Slot) (i : Nat) (k : V → Option R) : evK E (.t i) k = valK (E i) k := by
  simp only [evK, Opd.eval, valK]; cases E i <;> rfl
@[simp] theorem valK_val (v : V) (k : V → Option R) : valK (.val v) k = k v := _root_.id rfl
@[simp] theorem evsK_nil (E : Nat → Slot) (k : List V → Option R) : evsK E [] k = k [] := _root_.id rfl
@[simp] theorem evsK_cons (E : Nat → Slot) (x : Opd) (xs : List Opd) (k : List V → Option R) : evsK E (x :: xs) k = evK E x fun v => evsK E xs fun vs => k (v :: vs) := by
  simp only [evsK, evK, Opd.evals, Option.bind_assoc, Option.bind_some]

def adK (E : Nat → Slot) (x : Opd) (k : AV → Option R) : Option R := (addrOf E x).bind k
def adFK (E : Nat → Slot) (mT mA : List Nat) (x : Opd) (k : AV → Option R) : Option R := (addrF E mT mA x).bind k
@[simp] theorem adK_t (E : Nat → Slot) (i : Nat) (k : AV → Option R) : adK E (.t i) k = addrK i (E i) k := by
  simp only [adK, addrOf, addrK]
  cases h : E i with
  | val v => cases v <;> simp
  | _ => simp
@[simp] theorem adFK_t (E : Nat → Slot) (mT mA : List Nat) (i : Nat) (k : AV → Option R) : adFK E mT mA (.t i) k = addrK i (E i) fun a => if fence E mT mA a then k a else none := by
  rw [← adK_t]
  simp only [adFK, addrF, adK, Option.bind_assoc]
  congr 1
  funext a
  split <;> rfl
@[simp] theorem addrK_var (i : Nat) (cs : List V) (k : AV → Option R) : addrK i (.var cs) k = k (.loc i 0) := _root_.id rfl
@[simp] theorem addrK_lref (i t o : Nat) (k : AV → Option R) : addrK i (.lref t o) k = k (.loc t o) := _root_.id rfl
@[simp] theorem addrK_ref (i b o : Nat) (k : AV → Option R) : addrK i (.val (.ref b o)) k = k (.ref b o) := _root_.id rfl
@[simp] theorem addrK_pim (i : Nat) (cs : List V) (k : AV → Option R) : addrK i (.val (.pim cs)) k = k (.imm cs) := _root_.id rfl
@[simp] theorem fence_none (E : Nat → Slot) (a : AV) : fence E [] [] a = true := by cases a <;> rfl
@[simp] theorem fence_imm (E : Nat → Slot) (mT mA : List Nat) (cs : List V) : fence E mT mA (.imm cs) = true := _root_.id rfl
@[simp] theorem fence_loc (E : Nat → Slot) (mT mA : List Nat) (t o : Nat) : fence E mT mA (.loc t o) = (mT.isEmpty && (mA.isEmpty || mA.contains t)) := _root_.id rfl
@[simp] theorem fence_ref (E : Nat → Slot) (mT mA : List Nat) (b o : Nat) : fence E mT mA (.ref b o) = if mA.isEmpty then mT.isEmpty || mT.any (fun t => (E t).names b) else !mT.isEmpty := _root_.id rfl
@[simp] theorem names_ref (b b' o : Nat) : Slot.names b (.val (.ref b' o)) = (b == b') := _root_.id rfl
@[simp] theorem slot_loc (t o : Nat) : AV.slot (.loc t o) = .lref t o := _root_.id rfl
@[simp] theorem slot_ref (t o : Nat) : AV.slot (.ref t o) = .val (.ref t o) := _root_.id rfl
@[simp] theorem slot_imm (cs : List V) : AV.slot (.imm cs) = .val (.pim cs) := _root_.id rfl
@[simp] theorem add_loc (t o n : Nat) : AV.add (.loc t o) n = .loc t (o + n) := _root_.id rfl
@[simp] theorem add_ref (t o n : Nat) : AV.add (.ref t o) n = .ref t (o + n) := _root_.id rfl
@[simp] theorem add_imm (cs : List V) (n : Nat) : AV.add (.imm cs) n = .imm (cs.drop n) := _root_.id rfl

def varK (x : Slot) (k : List V → Option R) : Option R := match x with
  | .var cs => k cs
  | _ => none
@[simp] theorem varK_var (cs : List V) (k : List V → Option R) : varK (.var cs) k = k cs := _root_.id rfl
def blkK (x : Option Blk) (k : List V → Option R) : Option R := match x with
  | some (.cells cs) => k cs
  | _ => none
@[simp] theorem blkK_cells (cs : List V) (k : List V → Option R) : blkK (some (.cells cs)) k = k cs := _root_.id rfl
def getK (E : Nat → Slot) (H : Nat → Option Blk) (n : Nat) (a : AV) (k : List V → Option R) : Option R := (a.get E H n).bind k
@[simp] theorem getK_loc (E : Nat → Slot) (t o n : Nat) (k : List V → Option R) : getK E H n (.loc t o) k = varK (E t) fun cs => (getCells cs o n).bind k := by
  simp only [getK, AV.get, varK]; cases E t <;> rfl
@[simp] theorem getK_ref (E : Nat → Slot) (b o n : Nat) (k : List V → Option R) : getK E H n (.ref b o) k = blkK (H b) fun cs => (getCells cs o n).bind k := by
  simp only [getK, AV.get, blkK]; cases H b with
  | none => rfl
  | some x => cases x <;> rfl
@[simp] theorem getK_imm (E : Nat → Slot) (cs : List V) (n : Nat) (k : List V → Option R) : getK E H n (.imm cs) k = (getCells cs 0 n).bind k := _root_.id rfl
def storeK (s : St) (new : List V) (a : AV) (k : St → Option R) : Option R := (a.put s new).bind k
@[simp] theorem storeK_loc (E : Nat → Slot) (t o : Nat) (new : List V) (k : St → Option R) : storeK ⟨E, H, nx, fl⟩ new (.loc t o) k = varK (E t) fun cs => (setCells cs o new).bind fun cs' => k ⟨upd E t (.var cs'), H, nx, fl⟩ := by
  simp only [storeK, AV.put, varK]; cases E t <;> simp only [Option.bind_none, Option.bind_assoc, Option.bind_some]
@[simp] theorem storeK_ref (E : Nat → Slot) (b o : Nat) (new : List V) (k : St → Option R) : storeK ⟨E, H, nx, fl⟩ new (.ref b o) k = blkK (H b) fun cs => if fl ≤ b then (setCells cs o new).bind fun cs' => k ⟨E, upd H b (some (.cells cs')), nx, fl⟩ else none := by
  simp only [storeK, AV.put, blkK]; cases H b with
  | none => rfl
  | some x =>
    cases x with
    | cells cs =>
      simp only
      split
      · simp only [Option.bind_assoc, Option.bind_some]
      · rfl
    | _ => rfl

section ops
variable {d : Option Nat} {g : Option (Nat × Bool)} {aid : Nat} {mT mA : List Nat} {k : Slot → St → Option R}
@[simp] theorem r_mov_k (v : V) (s : St) : runK C base ⟨d, g, aid, mT, mA, .mov (.k v)⟩ s k = k (.val v) s := _root_.id rfl
@[simp] theorem r_mov_t (i : Nat) (s : St) : runK C base ⟨d, g, aid, mT, mA, .mov (.t i)⟩ s k = movK i (s.E i) fun x => k x s := by
  simp only [runK, runOp, movR, movK]; cases s.E i <;> rfl
@[simp] theorem movK_val (i : Nat) (v : V) (k : Slot → Option R) : movK i (.val v) k = k (.val v) := _root_.id rfl
@[simp] theorem movK_lref (i t o : Nat) (k : Slot → Option R) : movK i (.lref t o) k = k (.lref t o) := _root_.id rfl
@[simp] theorem movK_var (i : Nat) (cs : List V) (k : Slot → Option R) : movK i (.var cs) k = k (.lref i 0) := _root_.id rfl
@[simp] theorem r_pick (c a b : Opd) (s : St) : runK C base ⟨d, g, aid, mT, mA, .pick c a b⟩ s k = evK s.E c fun c => @condK R c ⟨evK s.E a fun v => k (.val v) s⟩ ⟨evK s.E b fun v => k (.val v) s⟩ := by
  simp only [runK, runOp, evK, Option.bind_assoc, Option.bind_some]
  congr 1; funext v
  cases v
  case bool t => cases t <;> simp [condK, cK, evK]
  all_goals rfl
@[simp] theorem r_allocV (zero : List V) (s : St) : runK C base ⟨d, g, aid, mT, mA, .allocV zero⟩ s k = k (.var zero) s := _root_.id rfl
@[simp] theorem r_boxV (x : Opd) (s : St) : runK C base ⟨d, g, aid, mT, mA, .boxV x⟩ s k = evK s.E x fun v => k (.var v.cells) s := by
  simp only [runK, runOp, evK, Option.bind_assoc, Option.bind_some]
@[simp] theorem r_allocH (zero : List V) (E : Nat → Slot) : runK C base ⟨d, g, aid, mT, mA, .allocH zero⟩ ⟨E, H, nx, fl⟩ k = k (.val (.ref (base + aid) 0)) ⟨E, upd H (base + aid) (some (.cells zero)), nx, fl⟩ := _root_.id rfl
@[simp] theorem r_boxH (x : Opd) (E : Nat → Slot) : runK C base ⟨d, g, aid, mT, mA, .boxH x⟩ ⟨E, H, nx, fl⟩ k = evK E x fun v => k (.val (.ref (base + aid) 0)) ⟨E, upd H (base + aid) (some (.cells v.cells)), nx, fl⟩ := by
  simp only [runK, runOp, evK, Option.bind_assoc, Option.bind_some]
@[simp] theorem r_newPerm (sz : Nat) (E : Nat → Slot) : runK C base ⟨d, g, aid, mT, mA, .newPerm sz⟩ ⟨E, H, nx, fl⟩ k = k (.val (.list (.own (base + aid)) [])) ⟨E, upd H (base + aid) (some (.perm sz 0)), nx, fl⟩ := _root_.id rfl
@[simp] theorem r_load (agg : Bool) (n : Nat) (x : Opd) (s : St) : runK C base ⟨d, g, aid, mT, mA, .load agg n x⟩ s k = adFK s.E mT mA x fun a => getK s.E s.H n a fun cs => (asVal agg cs).bind fun v => k (.val v) s := by
  simp only [runK, runOp, adFK, getK, Option.bind_assoc, Option.bind_some]
/-- Cells that may be stored. -/
def storable (cs : List V) : Bool := cs.all V.one
@[simp] theorem storable_nil : storable [] = true := _root_.id rfl
@[simp] theorem storable_cons (c : V) (cs : List V) : storable (c :: cs) = (c.one && storable cs) := _root_.id rfl
@[simp] theorem storable_append (a b : List V) : storable (a ++ b) = (storable a && storable b) := by simp [storable]
@[simp] theorem r_store (n : Nat) (x v : Opd) (s : St) : runK C base ⟨d, g, aid, mT, mA, .store n x v⟩ s k = adFK s.E mT mA x fun a => evK s.E v fun v =>
    if v.cells.length = n ∧ storable v.cells then storeK s v.cells a (k (.val .undef)) else none := by
  simp only [runK, runOp, adFK, evK, storeK, Option.bind_assoc]
  congr 1; funext a; congr 1; funext v
  by_cases h : v.cells.length = n ∧ v.cells.all V.one = true
  · rw [if_pos h, if_pos (show v.cells.length = n ∧ storable v.cells = true from h)]; simp only [Option.bind_assoc, Option.bind_some]
  · rw [if_neg h, if_neg (show ¬ (v.cells.length = n ∧ storable v.cells = true) from h)]; rfl
@[simp] theorem r_faddr (off : Nat) (x : Opd) (s : St) : runK C base ⟨d, g, aid, mT, mA, .faddr off x⟩ s k = adK s.E x fun a => k (a.add off).slot s := by
  simp only [runK, runOp, adK, Option.bind_assoc, Option.bind_some]
def aggK (v : V) (k : List V → Option R) : Option R := match v with
  | .agg cs => k cs
  | _ => none
@[simp] theorem aggK_agg (cs : List V) (k : List V → Option R) : aggK (.agg cs) k = k cs := _root_.id rfl
@[simp] theorem r_field (agg : Bool) (off n : Nat) (x : Opd) (s : St) : runK C base ⟨d, g, aid, mT, mA, .field agg off n x⟩ s k = evK s.E x fun v => aggK v fun cs => (getCells cs off n).bind fun c => (asVal agg c).bind fun v => k (.val v) s := by
  simp only [runK, runOp, evK, Option.bind_assoc, Option.bind_some]
  congr 1; funext v
  cases v
  case agg cs => simp only [aggK, Option.bind_assoc]
  all_goals rfl
@[simp] theorem r_iaddrA (len sz : Nat) (x i : Opd) (s : St) : runK C base ⟨d, g, aid, mT, mA, .iaddrA len sz x i⟩ s k = adK s.E x fun a => evK s.E i fun i => (idx? i len).bind fun i => k (a.add (i * sz)).slot s := by
  simp only [runK, runOp, adK, evK, Option.bind_assoc, Option.bind_some]
def iadS (sz : Nat) (v i : V) (k : V → Option R) : Option R := match v with
  | .list _ es => (idx? i es.length).bind fun i => (es[i]?).bind fun e => if e.length = sz then k (.pim e) else none
  | .buf b off sz' n => if sz' = sz then (idx? i n).bind fun i => k (.ref b (off + i * sz)) else none
  | _ => none
@[simp] theorem iadS_list (sz : Nat) (p : Perm) (es : List (List V)) (i : V) (k : V → Option R) : iadS sz (.list p es) i k = (idx? i es.length).bind fun i => (es[i]?).bind fun e => if e.length = sz then k (.pim e) else none := _root_.id rfl
@[simp] theorem iadS_buf (sz b off sz' n : Nat) (i : V) (k : V → Option R) : iadS sz (.buf b off sz' n) i k = if sz' = sz then (idx? i n).bind fun i => k (.ref b (off + i * sz)) else none := _root_.id rfl
@[simp] theorem r_iaddrS (sz : Nat) (x i : Opd) (s : St) : runK C base ⟨d, g, aid, mT, mA, .iaddrS sz x i⟩ s k = evK s.E x fun v => evK s.E i fun i => iadS sz v i fun v => k (.val v) s := by
  simp only [runK, runOp, evK, Option.bind_assoc, Option.bind_some]
  congr 1; funext v; congr 1; funext i
  cases v
  case list p es =>
    simp only [iadS, Option.bind_assoc]
    congr 1; funext i; congr 1; funext e
    split <;> rfl
  case buf b off sz' n =>
    simp only [iadS]
    split
    · simp only [Option.bind_assoc, Option.bind_some]
    · rfl
  all_goals rfl
@[simp] theorem r_idxA (agg : Bool) (len sz : Nat) (x i : Opd) (s : St) : runK C base ⟨d, g, aid, mT, mA, .idxA agg len sz x i⟩ s k = evK s.E x fun v => evK s.E i fun i => aggK v fun cs => (idx? i len).bind fun i => (getCells cs (i * sz) sz).bind fun c => (asVal agg c).bind fun v => k (.val v) s := by
  simp only [runK, runOp, evK, Option.bind_assoc, Option.bind_some]
  congr 1; funext v; congr 1; funext i
  cases v
  case agg cs => simp only [aggK, Option.bind_assoc]
  all_goals rfl
def idxSK (v i : V) (k : V → Option R) : Option R := match v with
  | .str b => (idx? i b.length).bind fun i => (b[i]?).bind fun c => k (.int .u8 c.toNat)
  | _ => none
@[simp] theorem idxSK_str (b : List UInt8) (i : V) (k : V → Option R) : idxSK (.str b) i k = (idx? i b.length).bind fun i => (b[i]?).bind fun c => k (.int .u8 c.toNat) := _root_.id rfl
@[simp] theorem r_idxS (x i : Opd) (s : St) : runK C base ⟨d, g, aid, mT, mA, .idxS x i⟩ s k = evK s.E x fun v => evK s.E i fun i => idxSK v i fun v => k (.val v) s := by
  simp only [runK, runOp, evK, Option.bind_assoc, Option.bind_some]
  congr 1; funext v; congr 1; funext i
  cases v
  case str b => simp only [idxSK, Option.bind_assoc, Option.bind_some]
  all_goals rfl
def partsK (E : Nat → Slot) (ps : List (Nat × Nat × Opd)) (k : List (Nat × Nat × V) → Option R) : Option R := (evalParts E ps).bind k
@[simp] theorem partsK_nil (E : Nat → Slot) (k : List (Nat × Nat × V) → Option R) : partsK E [] k = k [] := _root_.id rfl
@[simp] theorem partsK_cons (E : Nat → Slot) (off n : Nat) (x : Opd) (ps : List (Nat × Nat × Opd)) (k : List (Nat × Nat × V) → Option R) : partsK E ((off, n, x) :: ps) k = evK E x fun v => partsK E ps fun vs => k ((off, n, v) :: vs) := by
  simp only [partsK, evK, evalParts, Option.bind_assoc, Option.bind_some]
@[simp] theorem r_build (zero : List V) (ps : List (Nat × Nat × Opd)) (s : St) : runK C base ⟨d, g, aid, mT, mA, .build zero ps⟩ s k = partsK s.E ps fun ps => (fillV zero ps).bind fun cs => k (.val (.agg cs)) s := by
  simp only [runK, runOp, partsK, Option.bind_assoc, Option.bind_some]
@[simp] theorem r_buildS_f (sz len : Nat) (zero : List V) (ps : List (Nat × Nat × Opd)) (s : St) : runK C base ⟨d, g, aid, mT, mA, .buildS false sz len zero ps⟩ s k = partsK s.E ps fun ps => (fillV zero ps).bind fun cs => if cs.length = len * sz then k (.val (.list .full (chunks sz len cs))) s else none := by
  simp only [runK, runOp, partsK, Option.bind_assoc, Option.bind_some]
  congr 1; funext ps; congr 1; funext cs
  split <;> rfl
@[simp] theorem r_buildS_t (sz len : Nat) (zero : List V) (ps : List (Nat × Nat × Opd)) (E : Nat → Slot) : runK C base ⟨d, g, aid, mT, mA, .buildS true sz len zero ps⟩ ⟨E, H, nx, fl⟩ k = partsK E ps fun ps => (fillV zero ps).bind fun cs => if cs.length = len * sz then k (.val (.buf (base + aid) 0 sz len)) ⟨E, upd H (base + aid) (some (.cells cs)), nx, fl⟩ else none := by
  simp only [runK, runOp, partsK, Option.bind_assoc, Option.bind_some]
  congr 1; funext ps; congr 1; funext cs
  split <;> rfl
@[simp] theorem r_bin (op : BinOp) (x y : Opd) (s : St) : runK C base ⟨d, g, aid, mT, mA, .bin op x y⟩ s k = evK s.E x fun x => evK s.E y fun y => (binV op x y).bind fun v => k (.val v) s := by
  simp only [runK, runOp, evK, Option.bind_assoc, Option.bind_some]
@[simp] theorem r_eq (neg : Bool) (ty : EqT) (x y : Opd) (s : St) : runK C base ⟨d, g, aid, mT, mA, .eq neg ty x y⟩ s k = evK s.E x fun x => evK s.E y fun y => (eqV s.H ty x y).bind fun r => k (.val (.bool (if neg then !r else r))) s := by
  simp only [runK, runOp, evK, Option.bind_assoc, Option.bind_some]
@[simp] theorem r_un (op : UnOp) (x : Opd) (s : St) : runK C base ⟨d, g, aid, mT, mA, .un op x⟩ s k = evK s.E x fun x => (unV op x).bind fun v => k (.val v) s := by
  simp only [runK, runOp, evK, Option.bind_assoc, Option.bind_some]
def intK (v : V) (k : Int → Option R) : Option R := match v with
  | .int _ n => k n
  | _ => none
@[simp] theorem intK_int (t : IntKind) (n : Int) (k : Int → Option R) : intK (.int t n) k = k n := _root_.id rfl
@[simp] theorem r_conv (t : IntKind) (x : Opd) (s : St) : runK C base ⟨d, g, aid, mT, mA, .conv t x⟩ s k = evK s.E x fun x => intK x fun n => k (.val (.int t (t.wrap n))) s := by
  simp only [runK, runOp, evK, Option.bind_assoc, Option.bind_some]
  congr 1; funext v
  cases v <;> rfl
def nilK (i : Nat) (x : Slot) (k : Slot → Option R) : Option R := match x with
  | .var _ => k (.lref i 0)
  | .lref t o => k (.lref t o)
  | .val (.ref b o) => k (.val (.ref b o))
  | .val (.pim cs) => k (.val (.pim cs))
  | .val (.fn f c) => k (.val (.fn f c))
  | _ => none
@[simp] theorem nilK_var (i : Nat) (cs : List V) (k : Slot → Option R) : nilK i (.var cs) k = k (.lref i 0) := _root_.id rfl
@[simp] theorem nilK_lref (i t o : Nat) (k : Slot → Option R) : nilK i (.lref t o) k = k (.lref t o) := _root_.id rfl
@[simp] theorem nilK_ref (i b o : Nat) (k : Slot → Option R) : nilK i (.val (.ref b o)) k = k (.val (.ref b o)) := _root_.id rfl
@[simp] theorem nilK_pim (i : Nat) (cs : List V) (k : Slot → Option R) : nilK i (.val (.pim cs)) k = k (.val (.pim cs)) := _root_.id rfl
@[simp] theorem nilK_fn (i f : Nat) (c : List V) (k : Slot → Option R) : nilK i (.val (.fn f c)) k = k (.val (.fn f c)) := _root_.id rfl
@[simp] theorem r_nilchk (i : Nat) (s : St) : runK C base ⟨d, g, aid, mT, mA, .nilchk (.t i)⟩ s k = nilK i (s.E i) fun x => k x s := by
  simp only [runK, runOp, addrOf, nilK, Opd.eval]
  cases h : s.E i with
  | val v => cases v <;> simp [nilR, AV.slot]
  | _ => simp [AV.slot]
def tupK (v : V) (k : List V → Option R) : Option R := match v with
  | .tup vs => k vs
  | _ => none
@[simp] theorem tupK_tup (cs : List V) (k : List V → Option R) : tupK (.tup cs) k = k cs := _root_.id rfl
@[simp] theorem r_extract (i : Nat) (x : Opd) (s : St) : runK C base ⟨d, g, aid, mT, mA, .extract i x⟩ s k = evK s.E x fun v => tupK v fun vs => (vs[i]?).bind fun v => k (.val v) s := by
  simp only [runK, runOp, evK, Option.bind_assoc, Option.bind_some]
  congr 1; funext v
  cases v <;> rfl
@[simp] theorem r_len (t : LK) (x : Opd) (s : St) : runK C base ⟨d, g, aid, mT, mA, .len t x⟩ s k = evK s.E x fun v => (lenR s.H t v).bind fun v => k (.val v) s := by
  simp only [runK, runOp, evK, Option.bind_assoc, Option.bind_some]
@[simp] theorem r_mkfn (f : Nat) (caps : List Opd) (s : St) : runK C base ⟨d, g, aid, mT, mA, .mkfn f caps⟩ s k = evsK s.E caps fun vs => k (.val (.fn f vs)) s := by
  simp only [runK, runOp, evsK, Option.bind_assoc, Option.bind_some]
@[simp] theorem r_call (f : Nat) (args : List Opd) (s : St) : runK C base ⟨d, g, aid, mT, mA, .call f args⟩ s k = evsK s.E args fun vs => (callMasked C (maskIds s.E base mT mA) f vs s).bind fun r => k (.val r.1) r.2 := by
  simp only [runK, runOp, evsK, Option.bind_assoc, Option.bind_some]
def fnK (v : V) (k : Nat → List V → Option R) : Option R := match v with
  | .fn f cap => k f cap
  | _ => none
@[simp] theorem fnK_fn (f : Nat) (cap : List V) (k : Nat → List V → Option R) : fnK (.fn f cap) k = k f cap := _root_.id rfl
@[simp] theorem r_callv (x : Opd) (args : List Opd) (s : St) : runK C base ⟨d, g, aid, mT, mA, .callv x args⟩ s k = evK s.E x fun v => evsK s.E args fun vs => fnK v fun f cap => (callMasked C (maskIds s.E base mT mA) f (vs ++ cap) s).bind fun r => k (.val r.1) r.2 := by
  simp only [runK, runOp, evK, evsK, Option.bind_assoc]
  congr 1; funext v; congr 1; funext vs
  cases v
  case fn f cap => simp only [fnK, Option.bind_assoc, Option.bind_some]
  all_goals rfl
@[simp] theorem r_strOf (x : Opd) (s : St) : runK C base ⟨d, g, aid, mT, mA, .strOf x⟩ s k = evK s.E x fun v => (strR s.H v).bind fun v => k (.val v) s := by
  simp only [runK, runOp, evK, Option.bind_assoc, Option.bind_some]
def appK (md sz : Nat) (id : Nat) (H : Nat → Option Blk) (nx fl : Nat) (E : Nat → Slot) (xv : V) (new : List (List V)) (k : Slot → St → Option R) : Option R := match xv with
  | .list p es =>
    if new.isEmpty then k (.val (.list p es)) ⟨E, H, nx, fl⟩
    else if es.length + new.length ≤ room ∧ headLen sz es ∧ headLen sz new then
      match p with
      | .full =>
        if md = 2 then none
        else if md = 1 then k (.val (.buf id 0 sz (es.length + new.length))) ⟨E, upd H id (some (.cells (es ++ new).flatten)), nx, fl⟩
        else k (.val (.list (.own id) (es ++ new))) ⟨E, upd H id (some (.perm sz (es.length + new.length))), nx, fl⟩
      | .own b =>
        match H b with
        | some (.perm sz' n) =>
          if sz' = sz ∧ n = es.length ∧ fl ≤ b ∧ (new.all fun e => e.all V.one) then k (.val (.list (.own b) (es ++ new))) ⟨E, upd H b (some (.perm sz (n + new.length))), nx, fl⟩
          else none
        | _ => none
      | .no => none
    else none
  | .buf b off sz' n => if new.isEmpty then k (.val (.buf b off sz' n)) ⟨E, H, nx, fl⟩ else none
  | _ => none
@[simp] theorem r_append (md sz : Nat) (x y : Opd) (E : Nat → Slot) : runK C base ⟨d, g, aid, mT, mA, .append md sz x y⟩ ⟨E, H, nx, fl⟩ k = evK E x fun xv => evK E y fun yv => (elemsOf H sz yv).bind fun new => appK md sz (base + aid) H nx fl E xv new k := by
  simp only [runK, runOp, evK, Option.bind_assoc]
  congr 1; funext xv; congr 1; funext yv; congr 1; funext new
  cases xv
  case list p es =>
    simp only [appK]
    split
    · rfl
    · split
      · cases p with
        | no => rfl
        | full => simp only; split <;> (try rfl); split <;> rfl
        | own b =>
          simp only
          cases H b with
          | none => rfl
          | some K =>
            cases K with
            | perm => simp only; split <;> rfl
            | cells => rfl
            | map => rfl
      · rfl
  case buf => simp only [appK]; split <;> rfl
  all_goals rfl
@[simp] theorem r_lookup (ks : KT) (ok : Bool) (zero : V) (x i : Opd) (s : St) : runK C base ⟨d, g, aid, mT, mA, .lookup ks ok zero x i⟩ s k = evK s.E x fun m => evK s.E i fun key =>
    if keyOk ks key then (lookR s.H ks m key).bind fun r => k (.val (if ok then .tup [r.getD zero, .bool r.isSome] else r.getD zero)) s else none := by
  simp only [runK, runOp, evK, Option.bind_assoc, Option.bind_some]
  congr 1; funext m; congr 1; funext key
  split <;> simp only [Option.bind_assoc, Option.bind_some, Option.bind_none]
@[simp] theorem r_mkmap (E : Nat → Slot) : runK C base ⟨d, g, aid, mT, mA, .mkmap⟩ ⟨E, H, nx, fl⟩ k = k (.val (.mapr (base + aid))) ⟨E, upd H (base + aid) (some (.map [])), nx, fl⟩ := _root_.id rfl
def mapK (H : Nat → Option Blk) (fl : Nat) (m : V) (ok : Bool) (k : Nat → List (V × V) → Option R) : Option R := match m with
  | .mapr b => match H b with
    | some (.map es) => if fl ≤ b ∧ ok then k b es else none
    | _ => none
  | _ => none
theorem mapK_mapr (b : Nat) (es : List (V × V)) (ok : Bool) (k : Nat → List (V × V) → Option R) (h : H b = some (.map es)) : mapK H fl (.mapr b) ok k = if fl ≤ b ∧ ok then k b es else none := by
  simp only [mapK, h]
@[simp] theorem r_mapupd (ks : KT) (x i v : Opd) (E : Nat → Slot) : runK C base ⟨d, g, aid, mT, mA, .mapupd ks x i v⟩ ⟨E, H, nx, fl⟩ k = evK E x fun m => evK E i fun key => evK E v fun v => mapK H fl m (keyOk ks key) fun b es => (mapSet ks key v es).bind fun es' => k (.val .undef) ⟨E, upd H b (some (.map es')), nx, fl⟩ := by
  simp only [runK, runOp, evK, Option.bind_assoc]
  congr 1; funext m; congr 1; funext key; congr 1; funext v
  cases m
  case mapr b =>
    simp only [mapK]
    cases H b with
    | none => rfl
    | some K =>
      cases K with
      | map es =>
        simp only
        split
        · simp only [Option.bind_assoc, Option.bind_some]
        · rfl
      | _ => rfl
  all_goals rfl
@[simp] theorem r_maxmin (mx : Bool) (xs : List Opd) (s : St) : runK C base ⟨d, g, aid, mT, mA, .maxmin mx xs⟩ s k = evsK s.E xs fun vs => (match vs with | .int t n :: vs => foldInt mx (.int t n) vs | _ => none).bind fun v => k (.val v) s := by
  simp only [runK, runOp, evsK, Option.bind_assoc, Option.bind_some]
  rfl
def strK (v : V) (k : List UInt8 → Option R) : Option R := match v with
  | .str b => k b
  | _ => none
@[simp] theorem strK_str (b : List UInt8) (k : List UInt8 → Option R) : strK (.str b) k = k b := _root_.id rfl
@[simp] theorem r_sliceStr (x : Opd) (lo hi : Option Opd) (s : St) : runK C base ⟨d, g, aid, mT, mA, .sliceStr x lo hi⟩ s k = evK s.E x fun v => strK v fun b => (bnd? s.E hi b.length b.length).bind fun h => (bnd? s.E lo 0 h).bind fun l => k (.val (.str ((b.take h).drop l))) s := by
  simp only [runK, runOp, evK, Option.bind_assoc, Option.bind_some]
  congr 1; funext v
  cases v
  case str b => simp only [strK, Option.bind_assoc, Option.bind_some]
  all_goals rfl
end ops
@[simp] theorem maskIds_nil (E : Nat → Slot) (b : Nat) : maskIds E base [] [] b = false := _root_.id rfl
theorem masked_nil {f : Nat} {args : List V} {E E' : Nat → Slot} : callMasked C (maskIds E' base [] []) f args ⟨E, H, nx, fl⟩ = (C f args ⟨H, nx, fl⟩).bind fun r => some (r.1, ⟨E, r.2.H, r.2.next, fl⟩) := by
  unfold callMasked
  have h : (⟨fun b => if maskIds E' base [] [] b = true then none else H b, nx, fl⟩ : HS) = ⟨H, nx, fl⟩ := by simp
  show (C f args ⟨fun b => if maskIds E' base [] [] b = true then none else H b, nx, fl⟩).bind _ = _
  rw [h]
  cases C f args ⟨H, nx, fl⟩ with
  | none => rfl
  | some r => simp

@[simp] theorem upd_app {α : Type} (f : Nat → α) (i j : Nat) (x : α) : upd f i x j = if j = i then x else f j := _root_.id rfl
section
variable (k : IntKind) (n : Int) (b : Bool) (s : List UInt8) (cs : List V) (p : Perm) (es : List (List V)) (i j : Nat)
@[simp] theorem cells_agg : V.cells (.agg cs) = cs := _root_.id rfl
@[simp] theorem cells_int : V.cells (.int k n) = [.int k n] := _root_.id rfl
@[simp] theorem cells_bool : V.cells (.bool b) = [.bool b] := _root_.id rfl
@[simp] theorem cells_str : V.cells (.str s) = [.str s] := _root_.id rfl
@[simp] theorem cells_list : V.cells (.list p es) = [.list p es] := _root_.id rfl
@[simp] theorem cells_ref : V.cells (.ref i j) = [.ref i j] := _root_.id rfl
@[simp] theorem cells_nilp : V.cells .nilp = [.nilp] := _root_.id rfl
@[simp] theorem cells_mapr : V.cells (.mapr i) = [.mapr i] := _root_.id rfl
@[simp] theorem cells_nilm : V.cells .nilm = [.nilm] := _root_.id rfl
@[simp] theorem cells_fn : V.cells (.fn i cs) = [.fn i cs] := _root_.id rfl
@[simp] theorem cells_nilf : V.cells .nilf = [.nilf] := _root_.id rfl
@[simp] theorem cells_buf : V.cells (.buf i j i j) = [.buf i j i j] := _root_.id rfl
@[simp] theorem cells_pim : V.cells (.pim cs) = [.pim cs] := _root_.id rfl
@[simp] theorem one_int : V.one (.int k n) = true := _root_.id rfl
@[simp] theorem one_bool : V.one (.bool b) = true := _root_.id rfl
@[simp] theorem one_str : V.one (.str s) = true := _root_.id rfl
@[simp] theorem one_list : V.one (.list p es) = true := _root_.id rfl
@[simp] theorem one_ref : V.one (.ref i j) = true := _root_.id rfl
@[simp] theorem one_nilp : V.one .nilp = true := _root_.id rfl
@[simp] theorem one_mapr : V.one (.mapr i) = true := _root_.id rfl
@[simp] theorem one_nilm : V.one .nilm = true := _root_.id rfl
@[simp] theorem one_fn : V.one (.fn i cs) = true := _root_.id rfl
@[simp] theorem one_nilf : V.one .nilf = true := _root_.id rfl
@[simp] theorem one_pim : V.one (.pim cs) = true := _root_.id rfl
end
@[simp] theorem chunks_zero (sz : Nat) (cs : List V) : chunks sz 0 cs = [] := _root_.id rfl
@[simp] theorem chunks_succ (sz n : Nat) (cs : List V) : chunks sz (n + 1) cs = cs.take sz :: chunks sz n (cs.drop sz) := _root_.id rfl
@[simp] theorem chunks_one (sz : Nat) (cs : List V) : chunks sz 1 cs = [cs.take sz] := _root_.id rfl
theorem headLen_map {α : Type} {f : α → List V} {sz : Nat} (h : ∀ x, (f x).length = sz) (l : List α) : headLen sz (l.map f) = true := by
  cases l with
  | nil => rfl
  | cons x xs => simp [headLen, h]
section
variable {R : Type} {H : Nat → Option Blk} {nx fl : Nat} {E : Nat → Slot} {k : Slot → St → Option R}
@[simp] theorem appK_new (sz id : Nat) (e : List V) (h : e.length = sz) : appK 0 sz id H nx fl E (.list .full []) [e] k = k (.val (.list (.own id) [e])) ⟨E, upd H id (some (.perm sz 1)), nx, fl⟩ := by
  simp [appK, headLen, h, room]
theorem appK_own (md sz id b : Nat) (es : List (List V)) (e : List V) (hb : H b = some (.perm sz es.length)) (hr : es.length + 1 ≤ room) (hh : headLen sz es = true) (he : e.length = sz) (ho : e.all V.one = true) (hf : fl ≤ b) :
    appK md sz id H nx fl E (.list (.own b) es) [e] k = k (.val (.list (.own b) (es ++ [e]))) ⟨E, upd H b (some (.perm sz (es.length + 1))), nx, fl⟩ := by
  have hh2 : headLen sz [e] = true := by simp [headLen, he]
  simp only [appK, List.isEmpty_cons, Bool.false_eq_true, if_false, List.length_cons, List.length_nil, Nat.zero_add, hr, hh, hh2, and_self, if_true, hb, hf, List.all_cons, ho, List.all_nil, Bool.and_self]
end

theorem idx_nat (k : IntKind) (i n : Nat) (h : i < n) : idx? (.int k i) n = some i := by
  simp only [idx?]
  rw [if_pos ⟨by omega, by omega⟩]
  simp
theorem wrap_i64 (n : Int) (h0 : -9223372036854775808 ≤ n) (h1 : n < 9223372036854775808) : IntKind.i64.wrap n = n := by
  simp only [IntKind.wrap, IntKind.bits, IntKind.signed]
  simp
  omega
/-- A function's body, with what follows. -/
theorem runI_K (fn : IFunc) (args : List V) (h : HS) : runI C fn args h = execK C fn.body ⟨mkEnv (argEnv 0 args), h.H, h.next, h.floor⟩ fun e s => match e with
    | .exit _ => none
    | _ => (readRes s fn.results).bind fun vs => some (packRes vs, ⟨s.H, s.next, h.floor⟩) := by
  unfold runI execK
  cases execI C fn.body ⟨mkEnv (argEnv 0 args), h.H, h.next, h.floor⟩ with
  | none => rfl
  | some r => obtain ⟨e, t⟩ := r; cases e <;> rfl
end

section
variable {C : CallF}
theorem masked_pure {m : Nat → Bool} {f : Nat} {args : List V} {v : V} {s : St} (h : ∀ h, C f args h = some (v, h)) : callMasked C m f args s = some (v, s) := by
  unfold callMasked
  rw [h]
  simp only [Option.bind_some, Option.some.injEq, Prod.mk.injEq, true_and]
  obtain ⟨E, H, nx, fl⟩ := s
  simp only [St.mk.injEq, and_true, true_and]
  funext b
  split <;> simp_all
end

@[simp] theorem getCells_all (cs : List V) (n : Nat) (h : cs.length = n) : getCells cs 0 n = some cs := by
  unfold getCells; rw [if_pos (by omega)]; simp [← h]
@[simp] theorem setCells_all (cs new : List V) (h : new.length = cs.length) : setCells cs 0 new = some new := by
  unfold setCells; rw [if_pos (by omega)]; simp [h]
@[simp] theorem asVal_true (cs : List V) : asVal true cs = some (.agg cs) := by
  cases cs with
  | nil => rfl
  | cons c cs => cases cs <;> rfl
@[simp] theorem asVal_false (v : V) : asVal false [v] = some v := _root_.id rfl

section
variable {nat : Natives} {tbl : Nat → Option IFunc}
theorem call0 {f : Nat} {args args' : List V} {h h' : HS} {u v : V} {body : ICode} {res : List IRes} (ht : tbl f = some ⟨0, body, res⟩) (ha : sealL 0 cv0 args = some args')
    (hr : runI (callI nat tbl) ⟨0, body, res⟩ args' ⟨fun _ => none, 0, 0⟩ = some (u, h')) (hs : sealV 0 (cvH 0 h'.H) u = some v) : callI nat tbl f args h = some (v, h) := by
  refine callI_of ?_
  unfold stepC
  rw [ht]
  simp only [ha, hr, hs, Option.bind_some]
theorem call2 {f : Nat} {args : List V} {h : HS} {r : V × HS} {m : Nat} {body : ICode} {res : List IRes} (ht : tbl f = some ⟨m + 2, body, res⟩)
    (hr : runI (callI nat tbl) ⟨m + 2, body, res⟩ args h = some r) : callI nat tbl f args h = some r := by
  refine callI_of ?_
  unfold stepC
  rw [ht]
  exact hr
end


section
variable (k : IntKind) (a b : Int)
@[simp] theorem b_eql : binV .eql (.int k a) (.int k b) = some (.bool (decide (a = b))) := by simp [binV, cmpInt]
@[simp] theorem b_neq : binV .neq (.int k a) (.int k b) = some (.bool (!decide (a = b))) := by simp [binV, cmpInt]
@[simp] theorem b_lss : binV .lss (.int k a) (.int k b) = some (.bool (decide (a < b))) := by simp [binV, cmpInt]
@[simp] theorem b_leq : binV .leq (.int k a) (.int k b) = some (.bool (decide (a ≤ b))) := by simp [binV, cmpInt]
@[simp] theorem b_gtr : binV .gtr (.int k a) (.int k b) = some (.bool (decide (b < a))) := by simp [binV, cmpInt]
@[simp] theorem b_geq : binV .geq (.int k a) (.int k b) = some (.bool (decide (b ≤ a))) := by simp [binV, cmpInt]
@[simp] theorem b_add : binV .add (.int k a) (.int k b) = some (.int k (k.wrap (a + b))) := by simp [binV, cmpInt, arith]
@[simp] theorem b_sub : binV .sub (.int k a) (.int k b) = some (.int k (k.wrap (a - b))) := by simp [binV, cmpInt, arith]
@[simp] theorem b_mul : binV .mul (.int k a) (.int k b) = some (.int k (k.wrap (a * b))) := by simp [binV, cmpInt, arith]
theorem b_quo : binV .quo (.int k a) (.int k b) = if b = 0 then none else some (.int k (k.wrap (a.tdiv b))) := by simp only [binV, cmpInt, arith, if_true]; split <;> rfl
theorem b_rem : binV .rem (.int k a) (.int k b) = if b = 0 then none else some (.int k (a.tmod b)) := by simp only [binV, cmpInt, arith, if_true]; split <;> rfl
end
section
variable (a b : List UInt8)
@[simp] theorem bs_eql : binV .eql (.str a) (.str b) = some (.bool (decide (a = b))) := _root_.id rfl
@[simp] theorem bs_neq : binV .neq (.str a) (.str b) = some (.bool (!decide (a = b))) := _root_.id rfl
@[simp] theorem bs_add : binV .add (.str a) (.str b) = if a.length + b.length ≤ 4294967296 then some (.str (a ++ b)) else none := _root_.id rfl
@[simp] theorem u_not (b : Bool) : unV .not (.bool b) = some (.bool (!b)) := _root_.id rfl
end
@[simp] theorem len_list (H : Nat → Option Blk) (p : Perm) (es : List (List V)) : lenR H .sl (.list p es) = some (.int .i64 es.length) := _root_.id rfl
@[simp] theorem len_str (H : Nat → Option Blk) (b : List UInt8) : lenR H .str (.str b) = some (.int .i64 b.length) := _root_.id rfl
@[simp] theorem elems_list (H : Nat → Option Blk) (sz : Nat) (p : Perm) (es : List (List V)) : elemsOf H sz (.list p es) = some es := _root_.id rfl
end Go.Abs
