/-
  THE MACHINE WITHOUT FUEL: what calls come to in the end; each equation of it is one of the machine with fuel.
-/
import Derived.Test.YtagmcgbbgjkdbaaAbs26
set_option linter.all false
namespace Go.Abs
open Go

/-- From some fuel on, it is so. -/
def Evt {α : Type} (F : Nat → Option α) (r : α) : Prop := ∃ k, ∀ n, k ≤ n → F n = some r

theorem Evt.one {α : Type} {F : Nat → Option α} {r r' : α} (h : Evt F r) (h' : Evt F r') : r = r' := by
  obtain ⟨k, h⟩ := h
  obtain ⟨k', h'⟩ := h'
  have a := h (max k k') (Nat.le_max_left _ _)
  have b := h' (max k k') (Nat.le_max_right _ _)
  rw [a] at b
  injection b

theorem Evt.const {α : Type} {x : Option α} {r : α} (h : x = some r) : Evt (fun _ => x) r := ⟨0, fun _ _ => h⟩

theorem Evt.bind {α β : Type} {F : Nat → Option α} {G : Nat → α → Option β} {a : α} {r : β} (h : Evt F a) (k : Evt (fun n => G n a) r) : Evt (fun n => (F n).bind (G n)) r := by
  obtain ⟨i, h⟩ := h
  obtain ⟨j, k⟩ := k
  refine ⟨max i j, fun n hn => ?_⟩
  simp only [h n (Nat.le_trans (Nat.le_max_left _ _) hn), Option.bind_some]
  exact k n (Nat.le_trans (Nat.le_max_right _ _) hn)

theorem Evt.bind_of {α β : Type} {x : Option α} {F : Nat → Option α} {g : α → Option β} {G : Nat → α → Option β} {r : β}
    (h : x.bind g = some r) (hf : ∀ a, x = some a → Evt F a) (hg : ∀ a, g a = some r → Evt (fun n => G n a) r) : Evt (fun n => (F n).bind (G n)) r := by
  cases hx : x with
  | none => rw [hx] at h; cases h
  | some a => rw [hx] at h; exact (hf a hx).bind (hg a h)

open Classical in
/-- The one value that it comes to. -/
noncomputable def limO {α : Type} (F : Nat → Option α) : Option α := if h : ∃ r, Evt F r then some h.choose else none

theorem limO_of {α : Type} {F : Nat → Option α} {r : α} (h : Evt F r) : limO F = some r := by
  have hx : ∃ r, Evt F r := ⟨r, h⟩
  simp only [limO, dif_pos hx]
  rw [hx.choose_spec.one h]

theorem limO_evt {α : Type} {F : Nat → Option α} {r : α} (h : limO F = some r) : Evt F r := by
  unfold limO at h
  split at h
  · rename_i hx
    injection h with h
    rw [← h]
    exact hx.choose_spec
  · cases h

theorem iterN_mono {f : St → Option (Ex × St)} {r : Ex × St} : ∀ {n m : Nat} {s : St}, n ≤ m → iterN n f s = some r → iterN m f s = some r
  | 0, _, _, _, h => by simp [iterN] at h
  | n + 1, 0, _, h, _ => by omega
  | n + 1, m + 1, s, hm, h => by
    simp only [iterN] at h ⊢
    cases hx : f s with
    | none => rw [hx] at h; cases h
    | some a =>
      rw [hx] at h
      simp only [Option.bind_some] at h ⊢
      split at h
      · exact iterN_mono (Nat.le_of_succ_le_succ hm) h
      · exact h

noncomputable def iterI (f : St → Option (Ex × St)) (s : St) : Option (Ex × St) := limO fun n => iterN n f s

theorem iterI_of {f : St → Option (Ex × St)} {r : Ex × St} {n : Nat} {s : St} (h : iterN n f s = some r) : iterI f s = some r :=
  limO_of ⟨n, fun _ hm => iterN_mono hm h⟩

theorem iterI_ex {f : St → Option (Ex × St)} {r : Ex × St} {s : St} (h : iterI f s = some r) : ∃ n, iterN n f s = some r := by
  obtain ⟨k, h⟩ := limO_evt h
  exact ⟨k, h k (Nat.le_refl _)⟩

/-- A round, and what follows it. -/
def after (k : St → Option (Ex × St)) (r : Ex × St) : Option (Ex × St) := match r.1 with
  | .normal => k r.2
  | _ => some r

@[simp] theorem after_normal (k : St → Option (Ex × St)) (s : St) : after k (.normal, s) = k s := rfl
@[simp] theorem after_exit (k : St → Option (Ex × St)) (i : Nat) (s : St) : after k (.exit i, s) = some (.exit i, s) := rfl
@[simp] theorem after_ret (k : St → Option (Ex × St)) (s : St) : after k (.ret, s) = some (.ret, s) := rfl

theorem iterI_eq (f : St → Option (Ex × St)) (s : St) : iterI f s = (f s).bind (after (iterI f)) := by
  have up : ∀ r, (f s).bind (after (iterI f)) = some r → iterI f s = some r := by
    intro r h
    cases hx : f s with
    | none => rw [hx] at h; cases h
    | some a =>
      obtain ⟨e, t⟩ := a
      rw [hx] at h
      cases e with
      | normal =>
        obtain ⟨n, hn⟩ := iterI_ex (show iterI f t = some r from h)
        exact iterI_of (n := n + 1) (by simp only [iterN, hx, Option.bind_some]; exact hn)
      | exit i => exact iterI_of (n := 1) (by simp only [iterN, hx, Option.bind_some]; exact h)
      | ret => exact iterI_of (n := 1) (by simp only [iterN, hx, Option.bind_some]; exact h)
  cases hx : iterI f s with
  | some r =>
    obtain ⟨n, hn⟩ := iterI_ex hx
    cases n with
    | zero => simp [iterN] at hn
    | succ n =>
      simp only [iterN] at hn
      cases hy : f s with
      | none => rw [hy] at hn; cases hn
      | some a =>
        obtain ⟨e, t⟩ := a
        rw [hy] at hn
        cases e with
        | normal => exact (iterI_of (show iterN n f t = some r from hn)).symm
        | exit i => exact hn.symm
        | ret => exact hn.symm
  | none =>
    cases hy : (f s).bind (after (iterI f)) with
    | none => rfl
    | some r => rw [up r hy] at hx; cases hx

noncomputable def execI (call : CallF) : ICode → St → Option (Ex × St)
  | .skip, s => some (.normal, s)
  | .reg _ na ops, s => (stepOps call s.next ops { s with next := s.next + na }).bind fun s' => some (.normal, s')
  | .seq a b, s => (execI call a s).bind (after (execI call b))
  | .cond c a b, s => condV (c.eval s.E) (execI call a s) (execI call b s)
  | .block id body, s => (execI call body s).bind fun r => match r.1 with
    | .exit i => some (if i = id then .normal else .exit i, r.2)
    | e => some (e, r.2)
  | .loop live body, s => iterI (fun s => execI call body { s with E := lim live s.E }) s
  | .lim live body, s => (execI call body s).bind fun r => match r.1 with
    | .normal => some (.normal, { r.2 with E := lim live r.2.E })
    | _ => some r
  | .exit id, s => some (.exit id, s)
  | .ret, s => some (.ret, s)

noncomputable def runI (call : CallF) (fn : IFunc) (args : List V) (h : HS) : Option (V × HS) :=
  (execI call fn.body ⟨mkEnv (argEnv 0 args), h.H, h.next, h.floor⟩).bind fun r => match r.1 with
    | .exit _ => none
    | _ => (readRes r.2 fn.results).bind fun vs => some (packRes vs, ⟨r.2.H, r.2.next, h.floor⟩)

noncomputable def stepC (nat : Natives) (tbl : Nat → Option IFunc) (call : CallF) : CallF := fun f args h =>
  match tbl f with
  | none => (nat f args h).bind fun r => some (r.1, ⟨r.2.H, r.2.next, h.floor⟩)
  | some fn =>
    match fn.mode with
    | 0 => (sealL 0 cv0 args).bind fun args' => (runI call fn args' ⟨fun _ => none, 0, 0⟩).bind fun r => (sealV 0 (cvH 0 r.2.H) r.1).bind fun v => some (v, h)
    | 1 => (runI call fn args ⟨h.H, h.next, h.next⟩).bind fun r => (sealV h.next (cvH h.next r.2.H) r.1).bind fun v => some (v, h)
    | _ => runI call fn args h

section
variable {C : Nat → CallF} {K : CallF}

theorem masked_evt (hK : ∀ f a h r, K f a h = some r → Evt (fun n => C n f a h) r) {m : Nat → Bool} {f : Nat} {args : List V} {s : St} {r : V × St}
    (h : callMasked K m f args s = some r) : Evt (fun n => callMasked (C n) m f args s) r := by
  unfold callMasked at h ⊢
  exact Evt.bind_of h (fun a ha => hK _ _ _ _ ha) fun a ha => Evt.const ha

theorem runOp_evt (hK : ∀ f a h r, K f a h = some r → Evt (fun n => C n f a h) r) {base : Nat} {o : IOper} {s : St} {r : Slot × St}
    (h : runOp K base o s = some r) : Evt (fun n => runOp (C n) base o s) r := by
  obtain ⟨dst, guard, aid, mT, mA, op⟩ := o
  cases op
  case call f args =>
    simp only [runOp] at h ⊢
    exact Evt.bind_of h (fun a ha => Evt.const ha) fun a ha => Evt.bind_of ha (fun b hb => masked_evt hK hb) fun b hb => Evt.const hb
  case callv x args =>
    simp only [runOp] at h ⊢
    refine Evt.bind_of h (fun a ha => Evt.const ha) fun a ha => Evt.bind_of ha (fun b hb => Evt.const hb) fun b hb => ?_
    cases a
    case fn f cap => exact Evt.bind_of hb (fun b hb => masked_evt hK hb) fun b hb => Evt.const hb
    all_goals exact Evt.const hb
  all_goals exact Evt.const h

theorem stepOp_evt (hK : ∀ f a h r, K f a h = some r → Evt (fun n => C n f a h) r) {base : Nat} {o : IOper} {s s' : St}
    (h : stepOp K base o s = some s') : Evt (fun n => stepOp (C n) base o s) s' := by
  unfold stepOp at h ⊢
  split at h
  · split at h
    · rename_i h1 h2
      simp only [h1, h2, if_true]
      exact Evt.bind_of h (fun a ha => runOp_evt hK ha) fun a ha => Evt.const ha
    · rename_i h1 h2
      simp only [h1, h2, if_true]
      exact Evt.const h
  · cases h

theorem stepOps_evt (hK : ∀ f a h r, K f a h = some r → Evt (fun n => C n f a h) r) {base : Nat} : ∀ {os : List IOper} {s s' : St},
    stepOps K base os s = some s' → Evt (fun n => stepOps (C n) base os s) s'
  | [], _, _, h => Evt.const h
  | o :: os, s, s', h => by
    simp only [stepOps] at h ⊢
    exact Evt.bind_of h (fun a ha => stepOp_evt hK ha) fun a ha => stepOps_evt hK ha

theorem exec_evt (hK : ∀ f a h r, K f a h = some r → Evt (fun n => C n f a h) r) : ∀ (c : ICode) {s : St} {r : Ex × St},
    execI K c s = some r → Evt (fun n => exec (C n) n c s) r
  | .skip, _, _, h => Evt.const h
  | .exit _, _, _, h => Evt.const h
  | .ret, _, _, h => Evt.const h
  | .reg _ na ops, s, r, h => by
    simp only [execI] at h
    simp only [exec]
    exact Evt.bind_of h (fun a ha => stepOps_evt hK ha) fun a ha => Evt.const ha
  | .seq a b, s, r, h => by
    simp only [execI] at h
    simp only [exec]
    refine Evt.bind_of h (fun x hx => exec_evt hK a hx) fun x hx => ?_
    obtain ⟨e, t⟩ := x
    cases e with
    | normal => exact exec_evt hK b hx
    | exit i => exact Evt.const hx
    | ret => exact Evt.const hx
  | .cond c a b, s, r, h => by
    simp only [execI, condV] at h
    simp only [exec, condV]
    split at h
    · rename_i x hx
      split at h
      · rename_i ht; simp only [ht, if_true]; exact exec_evt hK a h
      · rename_i ht; simp only [ht]; exact exec_evt hK b h
    · cases h
  | .block id body, s, r, h => by
    simp only [execI] at h
    simp only [exec]
    exact Evt.bind_of h (fun x hx => exec_evt hK body hx) fun x hx => Evt.const hx
  | .lim live body, s, r, h => by
    simp only [execI] at h
    simp only [exec]
    refine Evt.bind_of h (fun x hx => exec_evt hK body hx) fun x hx => ?_
    obtain ⟨e, t⟩ := x
    cases e <;> exact Evt.const hx
  | .loop live body, s, r, h => by
    simp only [execI] at h
    simp only [exec]
    obtain ⟨m, hm⟩ := iterI_ex h
    have key : ∀ (m : Nat) (s : St) (r : Ex × St), iterN m (fun s => execI K body { s with E := lim live s.E }) s = some r →
        Evt (fun n => iterN m (fun s => exec (C n) n body { s with E := lim live s.E }) s) r := by
      intro m
      induction m with
      | zero => intro s r h; simp [iterN] at h
      | succ m ih =>
        intro s r h
        simp only [iterN] at h ⊢
        refine Evt.bind_of h (fun x hx => exec_evt hK body hx) fun x hx => ?_
        obtain ⟨e, t⟩ := x
        cases e with
        | normal => exact ih t r hx
        | exit i => exact Evt.const hx
        | ret => exact Evt.const hx
    obtain ⟨k, hk⟩ := key m s r hm
    exact ⟨max k m, fun n hn => iterN_mono (Nat.le_trans (Nat.le_max_right _ _) hn) (hk n (Nat.le_trans (Nat.le_max_left _ _) hn))⟩

theorem run_evt (hK : ∀ f a h r, K f a h = some r → Evt (fun n => C n f a h) r) {fn : IFunc} {args : List V} {hs : HS} {r : V × HS}
    (h : runI K fn args hs = some r) : Evt (fun n => runFn (C n) n fn args hs) r := by
  unfold runI at h
  unfold runFn
  refine Evt.bind_of h (fun x hx => exec_evt hK _ hx) fun x hx => ?_
  obtain ⟨e, t⟩ := x
  cases e <;> exact Evt.const hx
end

section
variable (nat : Natives) (tbl : Nat → Option IFunc)

/-- What a call comes to. -/
noncomputable def callI : CallF := fun f args h => limO fun n => callN nat tbl n f args h

theorem Evt.succ {α : Type} {F : Nat → Option α} {r : α} (h : Evt (fun n => F (n + 1)) r) : Evt F r := by
  obtain ⟨k, h⟩ := h
  refine ⟨k + 1, fun n hn => ?_⟩
  cases n with
  | zero => omega
  | succ n => exact h n (by omega)

variable {nat tbl}

theorem callI_of {f : Nat} {args : List V} {hs : HS} {r : V × HS} (h : stepC nat tbl (callI nat tbl) f args hs = some r) : callI nat tbl f args hs = some r := by
  have hK : ∀ f a h r, callI nat tbl f a h = some r → Evt (fun n => callN nat tbl n f a h) r := fun f a h r hh => limO_evt hh
  refine limO_of (Evt.succ ?_)
  unfold stepC at h
  simp only [callN]
  cases ht : tbl f with
  | none => rw [ht] at h; exact Evt.const h
  | some fn =>
    rw [ht] at h
    simp only at h ⊢
    split at h
    · rename_i h0
      simp only [h0]
      refine Evt.bind_of h (fun x hx => Evt.const hx) fun x hx => Evt.bind_of hx (fun y hy => run_evt hK hy) fun y hy => Evt.const hy
    · rename_i h0
      simp only [h0]
      refine Evt.bind_of h (fun x hx => run_evt hK hx) fun x hx => Evt.const hx
    · rename_i h0 h1
      split
      · rename_i h2; exact absurd h2 h0
      · rename_i h2; exact absurd h2 h1
      · exact run_evt hK h

theorem callI_ex {f : Nat} {args : List V} {hs : HS} {r : V × HS} (h : callI nat tbl f args hs = some r) : ∃ k, callN nat tbl k f args hs = some r := by
  obtain ⟨k, h⟩ := limO_evt h
  exact ⟨k, h k (Nat.le_refl _)⟩

theorem callI_n {f : Nat} {args : List V} {hs : HS} {r : V × HS} (k : Nat) (hm : ∀ n, k ≤ n → callN nat tbl n f args hs = some r) : callI nat tbl f args hs = some r :=
  limO_of ⟨k, hm⟩
end

theorem Evt.get {α : Type} {x : Option α} {r : α} (h : Evt (fun _ => x) r) : x = some r := by
  obtain ⟨k, h⟩ := h
  exact h k (Nat.le_refl _)

section
variable {C K : CallF}
theorem stepOps_le (hK : ∀ f a h r, C f a h = some r → K f a h = some r) {base : Nat} {os : List IOper} {s s' : St} (h : stepOps C base os s = some s') : stepOps K base os s = some s' :=
  Evt.get (stepOps_evt (C := fun _ => K) (K := C) (fun f a h r hh => Evt.const (hK f a h r hh)) h)

theorem bind_le {α β : Type} {x y : Option α} {f g : α → Option β} {r : β} (h : x.bind f = some r) (hx : ∀ a, x = some a → y = some a) (hf : ∀ a, f a = some r → g a = some r) : y.bind g = some r := by
  cases x with
  | none => cases h
  | some a => rw [hx a rfl]; exact hf a h

theorem exec_le (hK : ∀ f a h r, C f a h = some r → K f a h = some r) (lf : Nat) : ∀ (c : ICode) {s : St} {r : Ex × St}, exec C lf c s = some r → execI K c s = some r
  | .skip, _, _, h => h
  | .exit _, _, _, h => h
  | .ret, _, _, h => h
  | .reg _ na ops, s, r, h => by
    simp only [exec] at h
    simp only [execI]
    exact bind_le h (fun a ha => stepOps_le hK ha) fun a ha => ha
  | .seq a b, s, r, h => by
    simp only [exec] at h
    simp only [execI]
    refine bind_le h (fun x hx => exec_le hK lf a hx) fun x hx => ?_
    obtain ⟨e, t⟩ := x
    cases e with
    | normal => exact exec_le hK lf b hx
    | exit i => exact hx
    | ret => exact hx
  | .cond c a b, s, r, h => by
    simp only [exec, condV] at h
    simp only [execI, condV]
    split at h
    · split at h
      · rename_i ht; simp only [ht, if_true]; exact exec_le hK lf a h
      · rename_i ht; simp only [ht]; exact exec_le hK lf b h
    · cases h
  | .block id body, s, r, h => by
    simp only [exec] at h
    simp only [execI]
    exact bind_le h (fun x hx => exec_le hK lf body hx) fun x hx => hx
  | .lim live body, s, r, h => by
    simp only [exec] at h
    simp only [execI]
    refine bind_le h (fun x hx => exec_le hK lf body hx) fun x hx => ?_
    obtain ⟨e, t⟩ := x
    cases e <;> exact hx
  | .loop live body, s, r, h => by
    simp only [exec] at h
    simp only [execI]
    have key : ∀ (m : Nat) (s : St) (r : Ex × St), iterN m (fun s => exec C lf body { s with E := lim live s.E }) s = some r →
        iterN m (fun s => execI K body { s with E := lim live s.E }) s = some r := by
      intro m
      induction m with
      | zero => intro s r h; simp [iterN] at h
      | succ m ih =>
        intro s r h
        simp only [iterN] at h ⊢
        refine bind_le h (fun x hx => exec_le hK lf body hx) fun x hx => ?_
        obtain ⟨e, t⟩ := x
        cases e with
        | normal => exact ih t r hx
        | exit i => exact hx
        | ret => exact hx
    exact iterI_of (key lf s r h)
end

section
variable {nat : Natives} {tbl : Nat → Option IFunc}
/-- What a call with fuel comes to, it comes to. -/
theorem callI_fuel : ∀ (n : Nat) {f : Nat} {args : List V} {hs : HS} {r : V × HS}, callN nat tbl n f args hs = some r → callI nat tbl f args hs = some r
  | 0, _, _, _, _, h => by simp [callN] at h
  | n + 1, f, args, hs, r, h => by
    have ih : ∀ f a h r, callN nat tbl n f a h = some r → callI nat tbl f a h = some r := fun f a h r hh => callI_fuel n hh
    have run : ∀ {fn : IFunc} {as : List V} {hs : HS} {r : V × HS}, runFn (callN nat tbl n) n fn as hs = some r → runI (callI nat tbl) fn as hs = some r := by
      intro fn as hs r h
      unfold runFn at h
      unfold runI
      refine bind_le h (fun x hx => exec_le ih n _ hx) fun x hx => ?_
      obtain ⟨e, t⟩ := x
      cases e <;> exact hx
    refine callI_of ?_
    unfold stepC
    simp only [callN] at h
    cases ht : tbl f with
    | none => rw [ht] at h; exact h
    | some fn =>
      rw [ht] at h
      obtain ⟨mode, body, res⟩ := fn
      rcases mode with _ | _ | m
      · exact bind_le h (fun x hx => hx) fun x hx => bind_le hx (fun y hy => run hy) fun y hy => hy
      · exact bind_le h (fun x hx => run hx) fun x hx => hx
      · exact run h
end
end Go.Abs
