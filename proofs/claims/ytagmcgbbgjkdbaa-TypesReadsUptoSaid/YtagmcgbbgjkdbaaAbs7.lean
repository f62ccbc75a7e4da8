/-
  SLICES AND LITERALS.
-/
import Derived.Test.YtagmcgbbgjkdbaaAbs6
set_option linter.all false
namespace Go.Abs
open Go

section
variable {P : Program} {B n : Nat} {Γ : Imm} {L : Locs} {s : St} {a : Act} {w : World}

/-- What a slice that stays is, taken apart. -/
theorem Rep.inv_list {p : Perm} {es : List (List V)} {x : Value} (h : Rep Γ L (.list p es) x) :
    ∃ (a : Option Addr) (cap sz : Nat) (gs : List Value) (vals : Nat → Nat → Value), x = .slice a es.length cap ∧ (∀ e ∈ es, e.length = sz) ∧ (es ≠ [] → ∃ ad, a = some ad ∧ ad.spot = none ∧ Γ ad.block = some gs) ∧
      (∀ ad, a = some ad → ∀ i j e c, es[i]? = some e → e[j]? = some c → gs[ad.off + i * sz + j]? = some (vals i j)) ∧ (∀ i j e c, es[i]? = some e → e[j]? = some c → Rep Γ L c (vals i j)) ∧
      es.length ≤ cap ∧ (p = .full → cap = es.length) ∧
      (∀ b, p = .own b → L.perm b es.length = some (a.map fun ad => (ad.block, cap)) ∧ (∀ ad, a = some ad → ad.off = 0 ∧ ad.spot = none) ∧ (a = none → cap = 0)) := by
  cases h with | list _ _ a cap sz gs vals h1 h2 h3 h4 h5 h6 h7 => exact ⟨a, cap, sz, gs, vals, rfl, h1, h2, h3, h4, h5, h6, h7⟩

theorem headLen_spec {sz sz' : Nat} {es : List (List V)} (h : headLen sz es = true) (hs : ∀ e ∈ es, e.length = sz') (hne : es ≠ []) : sz' = sz := by
  cases es with
  | nil => exact (hne rfl).elim
  | cons e es => simp only [headLen, beq_iff_eq] at h; rw [← h]; exact (hs e (by simp)).symm

/-- A piece of a slice that stays. -/
theorem list_piece {p : Perm} {es : List (List V)} {a : Option Addr} {cap sz l h m : Nat} {p' : Perm} (hr : Rep Γ L (.list p es) (.slice a es.length cap)) (hlh : l ≤ h) (hhl : h ≤ es.length)
    (hd : headLen sz ((es.take h).drop l) = true) (hm : h ≤ m) (hfull : p' = .full → m = h) (hown : ∀ b, p' ≠ .own b) :
    Rep Γ L (.list p' ((es.take h).drop l)) (.slice (if m = l then a else a.map (·.add (l * sz))) (h - l) (m - l)) := by
  obtain ⟨a', cap', sz', gs, vals, e, h1, h2, h3, h4, h5, _, _⟩ := hr.inv_list
  injection e with e1 _ e2
  subst e1; subst e2
  have hlen : ((es.take h).drop l).length = h - l := by simp; omega
  have hget : ∀ i e, ((es.take h).drop l)[i]? = some e → es[l + i]? = some e ∧ i < h - l := by
    intro i e hi
    have hi' := (List.getElem?_eq_some_iff.1 hi).1
    rw [hlen] at hi'
    rw [List.getElem?_drop, List.getElem?_take] at hi
    split at hi
    · exact ⟨hi, hi'⟩
    · cases hi
  by_cases hne : (es.take h).drop l = []
  · rw [hne]
    have hz : h - l = 0 := by rw [← hlen, hne]; rfl
    have := Rep.list (Γ := Γ) (L := L) p' [] (if m = l then a else a.map (·.add (l * sz))) (m - l) sz [] (fun _ _ => Go.undef) (by simp) (by simp) (by simp) (by simp) (by simp) (fun hp => by have := hfull hp; simp; omega)
      (fun b hb => (hown b hb).elim)
    rw [hz]
    exact this
  · obtain ⟨ad, had, hsp, hg⟩ := h2 (by intro hh; subst hh; simp at hne)
    subst had
    have hsz : sz' = sz := headLen_spec hd (fun e he => h1 e (List.mem_of_mem_take (List.mem_of_mem_drop he))) hne
    subst hsz
    have hlt : l < h := by
      rcases Nat.lt_or_ge l h with hh | hh
      · exact hh
      · exfalso; apply hne; apply List.eq_nil_of_length_eq_zero; rw [hlen]; omega
    have hne' : m ≠ l := by omega
    rw [if_neg hne', ← hlen]
    obtain ⟨blk, off, spot⟩ := ad
    simp only at hsp
    subst hsp
    simp only [Option.map_some, addr_add]
    refine Rep.list p' _ _ _ sz' gs (fun i j => vals (l + i) j) (fun e he => h1 e (List.mem_of_mem_take (List.mem_of_mem_drop he))) (fun _ => ⟨_, rfl, rfl, hg⟩) (fun ad' e' i j e c hi hj => ?_) (fun i j e c hi hj => ?_) (by rw [hlen]; omega) (fun hp => by rw [hlen, hfull hp])
      (fun b hb => (hown b hb).elim)
    · injection e' with e'
      subst e'
      have := h3 _ rfl (l + i) j e c (hget i e hi).1 hj
      simp only at this ⊢
      rw [show off + l * sz' + i * sz' + j = off + (l + i) * sz' + j by rw [Nat.add_mul]; omega]
      exact this
    · exact h4 (l + i) j e c (hget i e hi).1 hj

theorem ok_sliceL (hf : FInv B n Γ L s a.tmps w) {t et : TypeId} {sz : Nat} {x : Opd} {X : Operand} {lo hi : Option Opd} {Lo Hi : Option Operand} {p : Perm} {es : List (List V)} {h l : Nat} (ht : tElem P t sz = some et)
    (hx : okOpd x X = true) (okl : okOpt lo Lo = true) (okh : okOpt hi Hi = true) (hv : x.eval s.E = some (.list p es)) (hh : bnd? s.E hi es.length es.length = some h) (hl : bnd? s.E lo 0 h = some l)
    (hd : headLen sz ((es.take h).drop l) = true) :
    VOK P Γ L w (Instr.sliceAt t (a.eval X) (Lo.map a.eval) (Hi.map a.eval) none) (.list (if h = es.length then pieceP p else .no) ((es.take h).drop l)) := by
  have hr := opd_rep hf hx hv
  obtain ⟨ad, cap, sz', gs, vals, e, _, _, _, _, hcap, hfull, _⟩ := hr.inv_list
  rw [e] at hr ⊢
  obtain ⟨hu, hsz⟩ := tElem_spec ht
  obtain ⟨hrun, h1, h2⟩ := run_bounds (P := P) hf true okl okh hcap hh hl
  refine .here hf.heap ?_ (list_piece (m := cap) hr h1 h2 hd (by omega) ?_ ?_)
  · simp [Instr.sliceAt, Instr.slice, run_underlying hu, hrun, run_size hsz]
  · intro hp
    split at hp
    · rename_i hh'
      subst hh'
      cases p <;> simp [pieceP] at hp
      rw [hfull rfl]
    · cases hp
  · intro b hb
    split at hb
    · cases p <;> simp [pieceP] at hb
    · cases hb

theorem ok_sliceL3 (hf : FInv B n Γ L s a.tmps w) {t et : TypeId} {sz : Nat} {x mx : Opd} {X Mx : Operand} {lo hi : Option Opd} {Lo Hi : Option Operand} {p : Perm} {es : List (List V)} {m h l : Nat} (ht : tElem P t sz = some et)
    (hx : okOpd x X = true) (okl : okOpt lo Lo = true) (okh : okOpt hi Hi = true) (okm : okOpd mx Mx = true) (hi' : hi.isSome = true) (hv : x.eval s.E = some (.list p es)) (hm : bnd? s.E (some mx) 0 es.length = some m)
    (hh : bnd? s.E hi es.length m = some h) (hl : bnd? s.E lo 0 h = some l) (hd : headLen sz ((es.take h).drop l) = true) :
    VOK P Γ L w (Instr.sliceAt t (a.eval X) (Lo.map a.eval) (Hi.map a.eval) (some (a.eval Mx))) (.list (if h = m then .full else .no) ((es.take h).drop l)) := by
  have hr := opd_rep hf hx hv
  obtain ⟨ad, cap, sz', gs, vals, e, _, _, _, _, hcap, hfull, _⟩ := hr.inv_list
  rw [e] at hr ⊢
  obtain ⟨hu, hsz⟩ := tElem_spec ht
  have hi2 : Hi.isSome = true := by
    cases hi <;> cases Hi <;> simp_all [okOpt]
  obtain ⟨hrun, h1, h2, h3⟩ := run_bounds3 (P := P) hf okl okh okm hcap hi2 hm hh hl
  refine .here hf.heap ?_ (list_piece (m := m) hr h1 (by omega) hd h2 ?_ ?_)
  · simp [Instr.sliceAt, Instr.slice, run_underlying hu, hrun, run_size hsz]
  · intro hp
    split at hp
    · rename_i hh'; exact hh'.symm
    · cases hp
  · intro b hb
    split at hb <;> cases hb

theorem ok_sliceB (hf : FInv B n Γ L s a.tmps w) {t et : TypeId} {sz b off k : Nat} {x : Opd} {X : Operand} {lo hi : Option Opd} {Lo Hi : Option Operand} {h l : Nat} (ht : tElem P t sz = some et)
    (hx : okOpd x X = true) (okl : okOpt lo Lo = true) (okh : okOpt hi Hi = true) (hv : x.eval s.E = some (.buf b off sz k)) (hh : bnd? s.E hi k k = some h) (hl : bnd? s.E lo 0 h = some l) :
    VOK P Γ L w (Instr.sliceAt t (a.eval X) (Lo.map a.eval) (Hi.map a.eval) none) (.buf b (off + l * sz) sz (h - l)) := by
  have hr := opd_rep hf hx hv
  cases hX : a.eval X <;> rw [hX] at hr <;> cases hr
  rename_i ad cap r hb ha hcap
  obtain ⟨hu, hsz⟩ := tElem_spec ht
  obtain ⟨hrun, h1, h2⟩ := run_bounds (P := P) hf true okl okh hcap hh hl
  refine .here hf.heap (x := .slice (if cap = l then ad else ad.map (·.add (l * sz))) (h - l) (cap - l)) ?_ (.buf b _ sz _ r _ _ hb ?_ (by omega))
  · simp [Instr.sliceAt, Instr.slice, run_underlying hu, hrun, run_size hsz]
  · intro hne
    rw [if_neg (by omega), ha (by omega)]
    simp [addr_add]

theorem chunks_get (sz : Nat) : ∀ (k : Nat) (cs : List V) (i : Nat) (e : List V), (chunks sz k cs)[i]? = some e → i < k ∧ e = (cs.drop (i * sz)).take sz
  | 0, cs, i, e, h => by simp [chunks] at h
  | k + 1, cs, 0, e, h => by simp [chunks] at h; exact ⟨by omega, by simp [h]⟩
  | k + 1, cs, i + 1, e, h => by
    simp only [chunks, List.getElem?_cons_succ] at h
    obtain ⟨h1, h2⟩ := chunks_get sz k _ i e h
    refine ⟨by omega, ?_⟩
    rw [h2, List.drop_drop, show sz + i * sz = (i + 1) * sz by rw [Nat.succ_mul, Nat.add_comm]]

theorem chunks_length (sz : Nat) : ∀ (k : Nat) (cs : List V), (chunks sz k cs).length = k
  | 0, _ => rfl
  | k + 1, cs => by simp [chunks, chunks_length sz k]

theorem chunks_mem {sz k : Nat} {cs : List V} (h : k * sz ≤ cs.length) : ∀ e ∈ chunks sz k cs, e.length = sz := by
  intro e he
  obtain ⟨i, hi⟩ := List.mem_iff_getElem?.1 he
  obtain ⟨h1, rfl⟩ := chunks_get sz k cs i e hi
  have : i * sz + sz ≤ k * sz := by rw [← Nat.succ_mul]; exact Nat.mul_le_mul_right _ h1
  simp; omega

/-- Cells of a block that stays, as a slice. -/
theorem list_of_cells {r off sz k cap : Nat} {cs : List V} {gs xs : List Value} {p : Perm} (hg : Γ r = some gs) (hx : ∀ j x, xs[j]? = some x → gs[off + j]? = some x) (hr : Reps Γ L cs xs) (hl : cs.length = k * sz) (hcap : k ≤ cap) (hfull : p = .full → cap = k) (hown : ∀ b, p ≠ .own b) :
    Rep Γ L (.list p (chunks sz k cs)) (.slice (some ⟨r, off, none⟩) k cap) := by
  have hlen := chunks_length sz k cs
  have hget : ∀ i j e c, (chunks sz k cs)[i]? = some e → e[j]? = some c → cs[i * sz + j]? = some c := by
    intro i j e c hi hj
    obtain ⟨h1, rfl⟩ := chunks_get sz k cs i e hi
    rw [List.getElem?_take] at hj
    split at hj
    · rwa [List.getElem?_drop] at hj
    · cases hj
  have key := Rep.list (Γ := Γ) (L := L) p (chunks sz k cs) (some ⟨r, off, none⟩) cap sz gs (fun i j => xs.getD (i * sz + j) Go.undef) (chunks_mem (by omega)) (fun _ => ⟨_, rfl, rfl, hg⟩) (fun ad e' i j e c hi hj => ?_) (fun i j e c hi hj => ?_) (by rw [hlen]; exact hcap) (fun hp => by rw [hlen]; exact hfull hp)
      (fun b hb => (hown b hb).elim)
  · rw [hlen] at key; exact key
  · injection e' with e'
    subst e'
    obtain ⟨x, hx', _⟩ := hr.get (hget i j e c hi hj)
    have := hx _ x hx'
    simp only [Nat.add_assoc] at this ⊢
    rw [this, List.getD_eq_getElem?_getD, hx']
    rfl
  · obtain ⟨x, hx', hrx⟩ := hr.get (hget i j e c hi hj)
    rw [List.getD_eq_getElem?_getD, hx']
    exact hrx

theorem ok_iaddrS (hf : FInv B n Γ L s a.tmps w) {t et : TypeId} {sz i : Nat} {x j : Opd} {X J : Operand} {p : Perm} {es : List (List V)} {iv : V} {e : List V} (ht : tElem P t sz = some et)
    (hx : okOpd x X = true) (hj : okOpd j J = true) (hv : x.eval s.E = some (.list p es)) (hi : j.eval s.E = some iv) (hn : idx? iv es.length = some i) (he : es[i]? = some e) (hsz : e.length = sz) :
    VOK P Γ L w (Instr.indexAt t (a.eval X) (a.eval J)) (.pim e) := by
  have hr := opd_rep hf hx hv
  obtain ⟨ad, cap, sz', gs, vals, ex, h1, h2, h3, h4, hcap, _, _⟩ := hr.inv_list
  obtain ⟨ik, rfl, hlt⟩ := idx_spec hn
  rw [ex, (opd_rep hf hj hi).inv_int]
  obtain ⟨hu, hs⟩ := tElem_spec ht
  have hne : es ≠ [] := by intro hh; subst hh; simp at he
  obtain ⟨ad', rfl, hsp, hg⟩ := h2 hne
  obtain ⟨blk, off, spot⟩ := ad'
  simp only at hsp hg
  subst hsp
  have hs' : sz' = sz := by rw [← hsz]; exact (h1 e (List.mem_of_getElem? he)).symm
  subst hs'
  refine .here hf.heap (x := ptr blk (off + i * sz')) ?_ (.pim e blk _ gs (fun j => vals i j) hg (fun j c hj => h3 _ rfl i j e c he hj) (fun j c hj => h4 i j e c he hj))
  have hc : (0 : Int) ≤ (i : Int) ∧ (i : Int) < (es.length : Int) := by omega
  simp [Instr.indexAt, asIntOf, run_underlying hu, hlt, run_size hs, addr_add]

theorem ok_iaddrB (hf : FInv B n Γ L s a.tmps w) {t et : TypeId} {sz i b off k : Nat} {x j : Opd} {X J : Operand} {iv : V} (ht : tElem P t sz = some et)
    (hx : okOpd x X = true) (hj : okOpd j J = true) (hv : x.eval s.E = some (.buf b off sz k)) (hi : j.eval s.E = some iv) (hn : idx? iv k = some i) :
    VOK P Γ L w (Instr.indexAt t (a.eval X) (a.eval J)) (.ref b (off + i * sz)) := by
  have hr := opd_rep hf hx hv
  obtain ⟨ik, rfl, hlt⟩ := idx_spec hn
  cases hX : a.eval X <;> rw [hX] at hr <;> cases hr
  rename_i ad cap r hb ha hcap
  rw [(opd_rep hf hj hi).inv_int]
  obtain ⟨hu, hs⟩ := tElem_spec ht
  rw [ha (by omega)]
  refine .here hf.heap (x := ptr r (off + i * sz)) ?_ (.ref b _ r hb)
  have hc : (0 : Int) ≤ (i : Int) ∧ (i : Int) < (k : Int) := by omega
  simp [Instr.indexAt, asIntOf, run_underlying hu, hlt, run_size hs, addr_add]

theorem flatten_get {sz : Nat} : ∀ {es : List (List V)} {j : Nat} {c : V}, (∀ e ∈ es, e.length = sz) → es.flatten[j]? = some c → ∃ i k e, j = i * sz + k ∧ es[i]? = some e ∧ e[k]? = some c
  | [], j, c, _, h => by simp at h
  | e :: es, j, c, hs, h => by
    rw [List.flatten_cons] at h
    have he := hs e (by simp)
    by_cases hj : j < e.length
    · rw [List.getElem?_append_left hj] at h
      exact ⟨0, j, e, by simp, rfl, h⟩
    · rw [List.getElem?_append_right (by omega)] at h
      obtain ⟨i, k, e', h1, h2, h3⟩ := flatten_get (fun e he => hs e (by simp [he])) h
      exact ⟨i + 1, k, e', by rw [Nat.succ_mul]; omega, by simpa using h2, h3⟩

theorem ok_s2a_list (hf : FInv B n Γ L s a.tmps w) {t et : TypeId} {len sz : Nat} {x : Opd} {X : Operand} {p : Perm} {es : List (List V)} (ht : tArr P t len sz = some et) (hx : okOpd x X = true) (hv : x.eval s.E = some (.list p es))
    (h1 : len ≤ es.length) (h0 : 0 < len) (hd : headLen sz es = true) : VOK P Γ L w (Instr.arrayAt t (a.eval X)) (.pim (es.take len).flatten) := by
  have hr := opd_rep hf hx hv
  obtain ⟨ad, cap, sz', gs, vals, ex, g1, g2, g3, g4, hcap, _, _⟩ := hr.inv_list
  rw [ex]
  have hne : es ≠ [] := by intro hh; subst hh; simp at h1; omega
  obtain ⟨ad', rfl, hsp, hg⟩ := g2 hne
  obtain ⟨blk, off, spot⟩ := ad'
  simp only at hsp hg
  subst hsp
  have hs' := headLen_spec hd g1 hne
  subst hs'
  obtain ⟨hu, _⟩ := tArr_spec ht
  have hget : ∀ j c, ((es.take len).flatten)[j]? = some c → gs[off + j]? = some (vals (j / sz') (j % sz')) ∧ Rep Γ L c (vals (j / sz') (j % sz')) := by
    intro j c hj
    obtain ⟨i, k, e, rfl, hi, hk⟩ := flatten_get (sz := sz') (fun e he => g1 e (List.mem_of_mem_take he)) hj
    have hi' : es[i]? = some e := by
      rw [List.getElem?_take] at hi
      split at hi
      · exact hi
      · cases hi
    have hk' : k < sz' := by rw [← g1 e (List.mem_of_getElem? hi')]; exact (List.getElem?_eq_some_iff.1 hk).1
    have e1 : (i * sz' + k) / sz' = i := by
      rw [Nat.mul_comm, Nat.mul_add_div (by omega), Nat.div_eq_of_lt hk', Nat.add_zero]
    have e2 : (i * sz' + k) % sz' = k := by
      rw [Nat.mul_comm, Nat.mul_add_mod, Nat.mod_eq_of_lt hk']
    rw [e1, e2, ← Nat.add_assoc]
    exact ⟨g3 _ rfl i k e c hi' hk, g4 i k e c hi' hk⟩
  refine .here hf.heap (x := ptr blk off) ?_ (.pim _ blk off gs (fun j => vals (j / sz') (j % sz')) hg (fun j c hj => (hget j c hj).1) (fun j c hj => (hget j c hj).2))
  have : ¬ es.length < len := by omega
  simp [Instr.arrayAt, run_underlying hu, this]

theorem ok_s2a_buf (hf : FInv B n Γ L s a.tmps w) {t et : TypeId} {len sz sz' b off k : Nat} {x : Opd} {X : Operand} (ht : tArr P t len sz = some et) (hx : okOpd x X = true) (hv : x.eval s.E = some (.buf b off sz' k)) (h1 : len ≤ k) (h0 : 0 < len) :
    VOK P Γ L w (Instr.arrayAt t (a.eval X)) (.ref b off) := by
  have hr := opd_rep hf hx hv
  cases hX : a.eval X <;> rw [hX] at hr <;> cases hr
  rename_i ad cap r hb ha hcap
  obtain ⟨hu, _⟩ := tArr_spec ht
  rw [ha (by omega)]
  have : ¬ k < len := by omega
  exact .here hf.heap (x := ptr r off) (by simp [Instr.arrayAt, run_underlying hu, this]) (.ref b _ r hb)

theorem ok_mkfn (hf : FInv B n Γ L s a.tmps w) {f : Nat} {caps : List Opd} {Caps : Array Operand} {vs : List V} (hx : okOpds caps Caps.toList = true) (hv : Opd.evals s.E caps = some vs) :
    VOK P Γ L w (Instr.makeFunc (.func f) #[] (Caps.map a.eval)) (.fn f vs) := by
  have hr := Rep.fn' (f := f) (opds_reps hf hx hv)
  refine .here hf.heap (x := .func (.func f) #[] (Caps.map a.eval)) rfl ?_
  have : (Caps.toList.map a.eval).toArray = Caps.map a.eval := by apply Array.ext'; simp
  rwa [this] at hr

theorem fold_int (mx : Bool) : ∀ (l : List V) (xs : List Value) (v : V) (x : Value) (r : V), Rep Γ L v x → Reps Γ L l xs → foldInt mx v l = some r → (∃ k m, v = .int k m) →
    ∃ y, (xs.foldlM (fun p q => if mx then Builtin.max2 p q else Builtin.min2 p q) x).run P w = .ok y w ∧ Rep Γ L r y
  | [], xs, v, x, r, hv, hl, h, _ => by
    have := hl.inv_nil
    subst this
    have e : foldInt mx v [] = some v := by cases v <;> rfl
    rw [e] at h
    injection h with h
    subst h
    exact ⟨x, by simp, hv⟩
  | u :: l, xs, v, x, r, hv, hl, h, hi => by
    obtain ⟨y, ys, rfl, hy, hys⟩ := hl.inv_cons
    obtain ⟨k, m, rfl⟩ := hi
    cases u <;> simp only [foldInt, reduceCtorEq] at h
    rename_i k' m'
    split at h
    · rename_i hk
      subst hk
      rw [hv.inv_int, hy.inv_int]
      obtain ⟨z, hz, hrz⟩ := fold_int mx l ys _ _ r (.int k (if mx = true then if m' > m then m' else m else if m' < m then m' else m)) hys h ⟨_, _, rfl⟩
      refine ⟨z, ?_, hrz⟩
      rw [List.foldlM_cons, Sem.run_bind]
      have : (if mx then Builtin.max2 (.int k m) (.int k m') else Builtin.min2 (.int k m) (.int k m')).run P w = .ok (.int k (if mx = true then if m' > m then m' else m else if m' < m then m' else m)) w := by
        cases mx <;> simp [Builtin.max2, Builtin.min2]
      rw [this]
      exact hz
    · cases h


theorem ok_maxmin (hf : FInv B n Γ L s a.tmps w) {mx : Bool} {xs : List Opd} {Xs : Array Operand} {v : V} {vs : List V} {r : V} {ts : Array TypeId} {rt : TypeId} (hx : okOpds xs Xs.toList = true) (hv : Opd.evals s.E xs = some (v :: vs))
    (h : foldInt mx v vs = some r) (hi : ∃ k m, v = .int k m) :
    VOK P Γ L w (if mx then Builtin.max_ ts rt (Xs.map a.eval) else Builtin.min_ ts rt (Xs.map a.eval)) r := by
  have hr := opds_reps hf hx hv
  obtain ⟨y, ys, e, hy, hys⟩ := hr.inv_cons
  obtain ⟨z, hz, hrz⟩ := fold_int (P := P) (w := w) mx vs ys v y r hy hys h hi
  have e' : (Xs.map a.eval).toList = y :: ys := by rw [← e]; simp
  refine .here hf.heap ?_ hrz
  cases mx
  · simp only [Bool.false_eq_true, if_false] at hz ⊢
    simp only [Builtin.min_, e']
    exact hz
  · simp only [if_true] at hz ⊢
    simp only [Builtin.max_, e']
    exact hz

/-! ### literals -/

theorem fold_cells (off : Nat) : ∀ (l : List Value) (k : Nat) (arr : Array Value), off + k + l.length ≤ arr.size →
    ((l.zipIdx k).foldl (fun cs p => cs.setIfInBounds (off + p.2) p.1) arr).toList = arr.toList.take (off + k) ++ l ++ arr.toList.drop (off + k + l.length)
  | [], k, arr, h => by simp
  | v :: l, k, arr, h => by
    simp only [List.length_cons] at h
    rw [List.zipIdx_cons, List.foldl_cons]
    have ih := fold_cells off l (k + 1) (arr.setIfInBounds (off + k) v) (by simp; omega)
    rw [ih]
    simp only [Array.toList_setIfInBounds, List.length_cons]
    have hlt : off + k < arr.toList.length := by simp; omega
    rw [show off + (k + 1) = off + k + 1 by omega, List.take_succ_eq_append_getElem (by simpa using hlt), List.getElem_set_self, List.take_set_of_le (by omega), List.drop_set_of_lt (by omega)]
    simp [show off + k + 1 + l.length = off + k + (l.length + 1) by omega]

theorem setCells_spec {cs new out : List V} {off : Nat} (h : setCells cs off new = some out) : off + new.length ≤ cs.length ∧ out = cs.take off ++ new ++ cs.drop (off + new.length) := by
  unfold setCells at h
  split at h
  · rename_i hle; injection h with h; exact ⟨hle, h.symm⟩
  · cases h

theorem setCells_length {cs new out : List V} {off : Nat} (h : setCells cs off new = some out) : out.length = cs.length := by
  obtain ⟨h1, rfl⟩ := setCells_spec h
  simp; omega

theorem fill_ok (hf : FInv B n Γ L s a.tmps w) {place : Nat → Nat → Nat → Bool} {placeR : Nat → Option (Nat × Nat)} (hp : ∀ i off k, place i off k = true → placeR i = some (off, k)) :
    ∀ (parts : List (Nat × Nat × Opd)) (Parts : List (Nat × Operand)) (vs : List (Nat × Nat × V)) (cs out : List V) (xs : List Value), okParts place parts Parts = true → evalParts s.E parts = some vs → Reps Γ L cs xs → fillV cs vs = some out →
      ∃ ys, Instr.fill placeR xs.toArray (Parts.map fun p => (p.1, a.eval p.2)) = some ys.toArray ∧ Reps Γ L out ys
  | [], [], vs, cs, out, xs, _, he, hr, h => by
    simp only [evalParts, Option.some.injEq] at he
    subst he
    simp only [fillV, Option.some.injEq] at h
    subst h
    exact ⟨xs, rfl, hr⟩
  | [], _ :: _, _, _, _, _, ok, _, _, _ => by simp [okParts] at ok
  | _ :: _, [], _, _, _, _, ok, _, _, _ => by simp [okParts] at ok
  | (off, k, x) :: parts, (i, X) :: Parts, vs, cs, out, xs, ok, he, hr, h => by
    simp only [okParts, Bool.and_eq_true] at ok
    simp only [evalParts, Option.bind_eq_some_iff, Option.some.injEq] at he
    obtain ⟨v, hv, vs', hvs, rfl⟩ := he
    simp only [fillV] at h
    split at h
    · rename_i hk
      rw [Option.bind_eq_some_iff] at h
      obtain ⟨cs', hset, h⟩ := h
      obtain ⟨h1, rfl⟩ := setCells_spec hset
      have hrv := (opd_rep hf ok.1.2 hv).cells
      have hlv : (a.eval X).cells.size = v.cells.length := by rw [hrv.1]; simp
      have hlx : xs.length = cs.length := hr.1.symm
      obtain ⟨ys, hy, hry⟩ := fill_ok hf hp parts Parts vs' _ out (xs.take off ++ (a.eval X).cells.toList ++ xs.drop (off + v.cells.length)) ok.2 hvs ((hr.take off).append hrv |>.append (hr.drop _)) h
      refine ⟨ys, ?_, hry⟩
      rw [← hy]
      simp only [List.map_cons, Instr.fill, hp _ _ _ ok.1.1]
      have hc : ¬ (((a.eval X).cells.size ≠ k || decide (off + (a.eval X).cells.size > xs.toArray.size)) = true) := by
        simp only [List.size_toArray, Bool.or_eq_true, decide_eq_true_eq, ne_eq]
        omega
      rw [if_neg hc]
      congr 1
      apply Array.ext'
      rw [← Array.foldl_toList]
      have := fold_cells off (a.eval X).cells.toList 0 xs.toArray (by simp; omega)
      simp only [Nat.add_zero, Array.length_toList] at this
      rw [Array.toList_zipIdx, this, hlv]
    · cases h

theorem ok_build (hf : FInv B n Γ L s a.tmps w) {t : TypeId} {zero : List V} {parts : List (Nat × Nat × Opd)} {Parts : Array (Nat × Operand)} {vs : List (Nat × Nat × V)} {out : List V} (hz : tZero P t zero = true)
    (hp : (match P.underlying t with
      | some (.struct fs) => okParts (fun i off n => (match fs[i]? with | some f => decide (f.offset = off) && tSize P f.type n | none => false)) parts Parts.toList &&
          fs.toList.all fun f => (P.info? f.type).isSome
      | some (.array _ e) => (match P.info? e with | some ie => okParts (fun i off n => decide (off = i * ie.size) && decide (n = ie.size)) parts Parts.toList | none => false)
      | _ => false) = true)
    (he : evalParts s.E parts = some vs) (h : fillV zero vs = some out) : VOK P Γ L w (Instr.build t (Parts.map fun (i, x) => (i, a.eval x))) (.agg out) := by
  unfold tZero at hz
  split at hz
  · rename_i info hi
    split at hz
    · rename_i z hz'
      have hrz := okConsts_reps (Γ := Γ) (L := L) _ _ hz
      have hzero : (zeroValue t).run P w = .ok z w := by simp [zeroValue, typeInfo, hi, hz']
      have hmap : (Parts.map fun (i, x) => (i, a.eval x)).toList = Parts.toList.map fun p => (p.1, a.eval p.2) := by simp
      split at hp
      · rename_i fs hu
        rw [Bool.and_eq_true] at hp
        have hplaces : (fs.mapM fun f => (do pure (f.offset, ← sizeOf f.type) : Sem (Nat × Nat))).run P w = .ok (fs.map fun f => (f.offset, P.cellsOf f.type)) w := by
          have hall := hp.2
          rw [List.all_eq_true] at hall
          have key : ∀ l : List Field, (∀ f ∈ l, (P.info? f.type).isSome = true) → (l.mapM fun f => (do pure (f.offset, ← sizeOf f.type) : Sem (Nat × Nat))).run P w = .ok (l.map fun f => (f.offset, P.cellsOf f.type)) w := by
            intro l hl
            induction l with
            | nil => simp
            | cons f l ih =>
              obtain ⟨i', hi'⟩ := Option.isSome_iff_exists.1 (hl f (by simp))
              have hs : (sizeOf f.type).run P w = .ok (P.cellsOf f.type) w := by simp [sizeOf, typeInfo, hi', Program.cellsOf]
              have ht := ih fun f hf => hl f (by simp [hf])
              rw [List.mapM_cons]
              simp only [Sem.run_bind, hs, Result.andThen_ok, Sem.run_pure, ht, List.map_cons]
          rw [Array.mapM_eq_mapM_toList]
          simp only [Sem.run_map, key fs.toList hall, Result.andThen_ok]
          congr 1
          apply Array.ext'
          simp
        obtain ⟨ys, hy, hry⟩ := fill_ok (placeR := fun i => (fs.map fun f => (f.offset, P.cellsOf f.type))[i]?) hf (fun i off k hpl => by
          split at hpl
          · rename_i f hf'
            rw [Bool.and_eq_true] at hpl
            obtain ⟨i', hi', hk⟩ := tSize_spec hpl.2
            have := of_decide_eq_true hpl.1
            subst this
            rw [Array.getElem?_map, hf']
            simp [Program.cellsOf, hi', hk]
          · cases hpl) parts Parts.toList vs zero out z.cells.toList hp.1 he hrz h
        refine .here hf.heap (x := .agg ys.toArray) ?_ (Rep.agg' hry)
        simp only [Instr.build, Sem.run_bind, hzero, Result.andThen_ok, run_underlying hu, hplaces, hmap]
        have hz2 : z.cells.toList.toArray = z.cells := by simp
        rw [hz2] at hy
        rw [hy]
        rfl
      · rename_i m e hu
        split at hp
        · rename_i ie hie
          obtain ⟨ys, hy, hry⟩ := fill_ok (placeR := fun i => some (i * ie.size, ie.size)) hf (fun i off k hpl => by
            rw [Bool.and_eq_true] at hpl
            rw [of_decide_eq_true hpl.1, of_decide_eq_true hpl.2]) parts Parts.toList vs zero out z.cells.toList hp he hrz h
          refine .here hf.heap (x := .agg ys.toArray) ?_ (Rep.agg' hry)
          have hsz : (sizeOf e).run P w = .ok ie.size w := by simp [sizeOf, typeInfo, hie]
          simp only [Instr.build, Sem.run_bind, hzero, Result.andThen_ok, run_underlying hu, hsz, hmap]
          have hz2 : z.cells.toList.toArray = z.cells := by simp
          rw [hz2] at hy
          rw [hy]
          rfl
        · cases hp
      · cases hp
    · cases hz
  · cases hz

/-- the cells of a slice literal -/
theorem buildSlice_run (hf : FInv B n Γ L s a.tmps w) {t : TypeId} {sz len : Nat} {zero : List V} {parts : List (Nat × Nat × Opd)} {Parts : Array (Nat × Operand)} {vs : List (Nat × Nat × V)} {out : List V}
    (hlen : len * sz ≤ 2 ^ 24) (hz : (match tElem P t sz with
      | some e => (match P.info? e with
        | some ie => (match ie.zero with
          | some z => decide (z.cells.size = sz) && decide (0 < sz) && okConsts zero ((Array.range (len * sz)).map (z.cells[· % z.cells.size]!)).toList
          | none => false)
        | none => false)
      | none => false) = true)
    (hp : okParts (fun i off m => decide (off = i * sz) && decide (m = sz)) parts Parts.toList = true)
    (he : evalParts s.E parts = some vs) (h : fillV zero vs = some out) :
    0 < sz ∧ ∃ ys e, (Instr.buildSlice t len (Parts.map fun (i, x) => (i, a.eval x))).run P w = .ok (.slice (some ⟨w.heap.size, 0, none⟩) len len) { w with heap := w.heap.push (.cells ys.toArray e) } ∧ Reps Γ L out ys := by
  split at hz
  · rename_i e hte
    split at hz
    · rename_i ie hie
      split at hz
      · rename_i z hz'
        rw [Bool.and_eq_true, Bool.and_eq_true] at hz
        have hsz := of_decide_eq_true hz.1.1
        have hpos := of_decide_eq_true hz.1.2
        obtain ⟨hu, hs⟩ := tElem_spec hte
        have hzero : (zeroValue e).run P w = .ok z w := by simp [zeroValue, typeInfo, hie, hz']
        have hrz := okConsts_reps (Γ := Γ) (L := L) _ _ hz.2
        obtain ⟨ys, hy, hry⟩ := fill_ok (placeR := fun i => some (i * sz, sz)) hf (fun i off k hpl => by
            rw [Bool.and_eq_true] at hpl
            rw [of_decide_eq_true hpl.1, of_decide_eq_true hpl.2]) parts Parts.toList vs zero out _ hp he hrz h
        have hmap : (Parts.map fun (i, x) => (i, a.eval x)).toList = Parts.toList.map fun p => (p.1, a.eval p.2) := by simp
        refine ⟨hpos, ys, e, ?_, hry⟩
        have hle : ¬ (len * sz > 2 ^ 24) := by omega
        by_cases h0 : len * sz = 0
        · have : (Array.range (len * sz)).map (z.cells[· % z.cells.size]!) = (Array.range (len * sz)).map ((#[] : Array Value)[· % (#[] : Array Value).size]!) := by
            rw [h0]; simp
          rw [this] at hy
          simp only [Instr.buildSlice, Sem.run_bind, run_underlying hu, Result.andThen_ok, run_size hs, if_neg hle, if_pos h0, Sem.run_pure, hmap]
          simp only [Array.toArray_toList] at hy
          rw [hy]
          simp [newRow]
        · simp only [Instr.buildSlice, Sem.run_bind, run_underlying hu, Result.andThen_ok, run_size hs, if_neg hle, if_neg h0, hzero, Sem.run_pure, hmap]
          simp only [Array.toArray_toList] at hy
          rw [hy]
          simp [newRow]
      · cases hz
    · cases hz
  · cases hz

end
end Go.Abs
