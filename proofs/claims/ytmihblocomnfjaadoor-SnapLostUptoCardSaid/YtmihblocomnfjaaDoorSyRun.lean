/- A walk that the kernel carries out: regions in their order and in any order, code, calls. -/
import Derived.Test.YtmihblocomnfjaaDoorSyCode
set_option linter.unusedSimpArgs false
set_option linter.unusedVariables false
namespace Go.Proofs.YtmihblocomnfjaaDoor.Sy
open Go

section
variable (S : Strat) (P : Program)

/-! ### Operations in their order -/
def listE (call : CallF) (ν : Key → Nat) (ops : Array Oper) (n : Nat) (tp : Key) : List Oper → Nat → Env → St → Option (Env × St)
  | [], _, env, st => some (env, st)
  | o :: r, i, env, st => match opE S P call ν ops n (i :: tp) env o st with
    | none => none
    | some (v, st') => listE call ν ops n tp r (i + 1) (putE n env o.dst v) st'

variable {S P}
theorem listE_mono {call : (Key → Nat) → CallF} (hc : CallOk P call) {ν : Key → Nat} {ops : Array Oper} {n : Nat} {tp : Key} : ∀ (l : List Oper) (i : Nat) (env : Env) (st : St) (env' : Env) (st' : St),
    listE S P (call ν) ν ops n tp l i env st = some (env', st') → st'.Ok → st.Ok
  | [], _, _, _, _, _, h, hk => by simp only [listE, Option.some.injEq, Prod.mk.injEq] at h; obtain ⟨_, rfl⟩ := h; exact hk
  | o :: r, i, env, st, env', st', h, hk => by
    simp only [listE] at h
    split at h
    · cases h
    · rename_i v s1 ho
      exact opE_mono hc ho (listE_mono hc r _ _ _ _ _ h hk)

theorem list_sound (hL : LinkOk S P) {call : (Key → Nat) → CallF} (hc : CallOk P call) {C : Nat → Nat → Prop} {B : Nat} {ops : Array Oper} {n : Nat} {tp : Key} {Q : Exit → Act → World → Prop} :
    ∀ (l : List Oper) (i : Nat) (a : Act) (w : World) (D : Dom) (env : (Key → Nat) → Env) (st : (Key → Nat) → St) (env' : (Key → Nat) → Env) (st' : (Key → Nat) → St),
      B ≤ w.heap.size → (∀ j, i ≤ j → ∀ k, (j :: tp) <:+ k → D k = none) → (∀ ν, Ag D ν → EnvOk n (env ν) a) → Fam C B D w st →
      (∀ ν, Ag D ν → listE S P (call ν) ν ops n tp l i (env ν) (st ν) = some (env' ν, st' ν) ∧ (st' ν).Ok) →
      (∀ a' w' D', Dom.Ext tp D D' → (∀ ν, Ag D' ν → EnvOk n (env' ν) a') → Fam C B D' w' st' → Sub (fun k i => C k i ∨ B ≤ k) w w' → Q .normal a' w') →
      wpList P ops Q l a w
  | [], i, a, w, D, env, st, env', st', hB, hf, hi, hfam, h, hQ => by
    have e : ∀ ν, Ag D ν → env ν = env' ν ∧ st ν = st' ν := fun ν hν => by
      have := (h ν hν).1
      simpa only [listE, Option.some.injEq, Prod.mk.injEq] using this
    exact hQ a w D (Dom.Ext.refl _ _) (fun ν hν => (e ν hν).1 ▸ hi ν hν) (hfam.congr fun ν hν => (e ν hν).2.symm) (Sub.refl _ _)
  | o :: l, i, a, w, D, env, st, env', st', hB, hf, hi, hfam, h, hQ => by
    obtain ⟨f, hf1⟩ := pick (D := D) ((undef, st (fun _ => 0)) : Value × St) (Q := fun ν x => opE S P (call ν) ν ops n (i :: tp) (env ν) o (st ν) = some (x.1, x.2) ∧ x.2.Ok ∧
        listE S P (call ν) ν ops n tp l (i + 1) (putE n (env ν) o.dst x.1) x.2 = some (env' ν, st' ν)) (fun ν hν => by
      obtain ⟨h1, h2⟩ := h ν hν
      simp only [listE] at h1
      split at h1
      · cases h1
      · rename_i v s1 ho
        exact ⟨(v, s1), ho, listE_mono hc _ _ _ _ _ _ h1 h2, h1⟩)
    refine wpList_step fun K hK => ?_
    refine op_sound hL hc hB (hf i (Nat.le_refl _)) hi hfam (fun ν hν => ⟨(hf1 ν hν).1, (hf1 ν hν).2.1⟩) (fun x w' ⟨D', hx, hy, hy', hz⟩ => hK _ _ ?_)
    refine list_sound hL (C := C) (n := n) (tp := tp) hc l (i + 1) _ w' D' (fun ν => putE n (env ν) o.dst (f ν).1) (fun ν => (f ν).2) env' st' (Nat.le_trans hB hz.size) (fun j hj k hk => ?_) (fun ν hν => ?_) hy' (fun ν hν => ?_) (fun a' w2 D2 hx2 hy2 hy3 hz2 => ?_)
    · rw [hx.new k (fun hh => by have := suffix_ne hk hh; omega)]
      exact hf j (by omega) k hk
    · have e := hy ν hν
      simp only at e ⊢
      rw [e]
      exact (hi ν (hν.ext hx)).put _ _
    · exact ⟨(hf1 ν (hν.ext hx)).2.2, (h ν (hν.ext hx)).2⟩
    · exact hQ a' w2 D2 ((hx.mono (List.suffix_cons _ _)).trans hx2) hy2 hy3 (Sub.trans (B := w.heap.size) hz (hz2.mono fun k i hh => .inl hh) (Nat.le_refl _))

/-- The first operations of a list. -/
theorem list_sound2 (hL : LinkOk S P) {call : (Key → Nat) → CallF} (hc : CallOk P call) {C : Nat → Nat → Prop} {B : Nat} {ops : Array Oper} {n : Nat} {tp : Key} {Q : Exit → Act → World → Prop} {rest : List Oper} :
    ∀ (l : List Oper) (i : Nat) (a : Act) (w : World) (D : Dom) (env : (Key → Nat) → Env) (st : (Key → Nat) → St) (env' : (Key → Nat) → Env) (st' : (Key → Nat) → St),
      B ≤ w.heap.size → (∀ j, i ≤ j → ∀ k, (j :: tp) <:+ k → D k = none) → (∀ ν, Ag D ν → EnvOk n (env ν) a) → Fam C B D w st →
      (∀ ν, Ag D ν → listE S P (call ν) ν ops n tp l i (env ν) (st ν) = some (env' ν, st' ν) ∧ (st' ν).Ok) →
      (∀ a' w' D', Dom.Ext tp D D' → (∀ ν, Ag D' ν → EnvOk n (env' ν) a') → Fam C B D' w' st' → Sub (fun k i => C k i ∨ B ≤ k) w w' → wpList P ops Q rest a' w') →
      wpList P ops Q (l ++ rest) a w
  | [], i, a, w, D, env, st, env', st', hB, hf, hi, hfam, h, hQ => by
    have e : ∀ ν, Ag D ν → env ν = env' ν ∧ st ν = st' ν := fun ν hν => by
      have := (h ν hν).1
      simpa only [listE, Option.some.injEq, Prod.mk.injEq] using this
    exact hQ a w D (Dom.Ext.refl _ _) (fun ν hν => (e ν hν).1 ▸ hi ν hν) (hfam.congr fun ν hν => (e ν hν).2.symm) (Sub.refl _ _)
  | o :: l, i, a, w, D, env, st, env', st', hB, hf, hi, hfam, h, hQ => by
    obtain ⟨f, hf1⟩ := pick (D := D) ((undef, st (fun _ => 0)) : Value × St) (Q := fun ν x => opE S P (call ν) ν ops n (i :: tp) (env ν) o (st ν) = some (x.1, x.2) ∧ x.2.Ok ∧
        listE S P (call ν) ν ops n tp l (i + 1) (putE n (env ν) o.dst x.1) x.2 = some (env' ν, st' ν)) (fun ν hν => by
      obtain ⟨h1, h2⟩ := h ν hν
      simp only [listE] at h1
      split at h1
      · cases h1
      · rename_i v s1 ho
        exact ⟨(v, s1), ho, listE_mono hc _ _ _ _ _ _ h1 h2, h1⟩)
    refine wpList_step fun K hK => ?_
    refine op_sound hL hc hB (hf i (Nat.le_refl _)) hi hfam (fun ν hν => ⟨(hf1 ν hν).1, (hf1 ν hν).2.1⟩) (fun x w' ⟨D', hx, hy, hy', hz⟩ => hK _ _ ?_)
    refine list_sound2 hL (C := C) (n := n) (tp := tp) hc l (i + 1) _ w' D' (fun ν => putE n (env ν) o.dst (f ν).1) (fun ν => (f ν).2) env' st' (Nat.le_trans hB hz.size) (fun j hj k hk => ?_) (fun ν hν => ?_) hy' (fun ν hν => ?_) (fun a' w2 D2 hx2 hy2 hy3 hz2 => ?_)
    · rw [hx.new k (fun hh => by have := suffix_ne hk hh; omega)]
      exact hf j (by omega) k hk
    · have e := hy ν hν
      simp only at e ⊢
      rw [e]
      exact (hi ν (hν.ext hx)).put _ _
    · exact ⟨(hf1 ν (hν.ext hx)).2.2, (h ν (hν.ext hx)).2⟩
    · exact hQ a' w2 D2 ((hx.mono (List.suffix_cons _ _)).trans hx2) hy2 hy3 (Sub.trans (B := w.heap.size) hz (hz2.mono fun k i hh => .inl hh) (Nat.le_refl _))

/-! ### Operations that only look -/
variable (S P)
def semR {α : Type} : Sem α → St → Option (α × St)
  | .pure a, st => some (a, st)
  | .load _ a k, st => match st.look S a with
    | some (_, c, st') => match c.v with
      | some v => semR (k v) st'
      | none => none
    | none => none
  | .shape r k, st => match S.shp st.shapes.l r st.tr with
    | none => none
    | some (i, tr) => match nth st.shapes.l i with
      | none => none
      | some s => semR (k (some (s.2.1, s.2.2.1))) { st with tr := tr, eqs := (addr r 0, addr s.1 0) :: st.eqs }
  | .frozen a k, st => match st.look S a with
    | some (_, _, st') => semR (k false) st'
    | none => none
  | .program k, st => semR (k P) st
  | .mark _ k, st => semR k st
  | _, _ => none

variable {S P}
theorem semR_mono {α : Type} (s : Sem α) : ∀ (st : St) (r : α) (st' : St), semR S P s st = some (r, st') → st'.Ok → st.Ok := by
  induction s with
  | pure a => intro st r st' h hk; simp only [semR, Option.some.injEq, Prod.mk.injEq] at h; obtain ⟨rfl, rfl⟩ := h; exact hk
  | load m a k ih =>
    intro st r st' h hk
    simp only [semR] at h
    split at h
    · rename_i i c s1 hl
      split at h
      · exact (look_ok hl (ih _ _ _ _ h hk)).1
      · cases h
    · cases h
  | shape r k ih =>
    intro st r' st' h hk
    simp only [semR] at h
    split at h
    · cases h
    · split at h
      · cases h
      · have h1 := ih _ _ _ _ h hk
        exact ⟨fun p hp => h1.eqs p (List.mem_cons_of_mem _ hp), h1.conds⟩
  | frozen a k ih =>
    intro st r st' h hk
    simp only [semR] at h
    split at h
    · rename_i i c s1 hl
      exact (look_ok hl (ih _ _ _ _ h hk)).1
    · cases h
  | program k ih => intro st r st' h hk; simp only [semR] at h; exact ih _ _ _ _ h hk
  | mark m k ih => intro st r st' h hk; simp only [semR] at h; exact ih _ _ _ h hk
  | _ => intro st r st' h hk; simp [semR] at h

theorem semR_sound {C : Nat → Nat → Prop} {B : Nat} {w : World} {α : Type} (s : Sem α) : ∀ (st : St) (r : α) (st' : St), Inv C B w st → semR S P s st = some (r, st') → st'.Ok →
    s.run P w = .ok r w ∧ st'.cells = st.cells ∧ st'.shapes = st.shapes := by
  induction s with
  | pure a => intro st r st' hi h hk; simp only [semR, Option.some.injEq, Prod.mk.injEq] at h; obtain ⟨rfl, rfl⟩ := h; exact ⟨rfl, rfl, rfl⟩
  | load m a k ih =>
    intro st r st' hi h hk
    simp only [semR] at h
    split at h
    · rename_i i c s1 hl
      split at h
      · rename_i v hv
        have h3 := look_ok hl (semR_mono _ _ _ _ h hk)
        obtain ⟨e1, e2, e3⟩ := ih v s1 r st' (hi.of_cells h3.2.2.2.1 h3.2.2.2.2) h hk
        refine ⟨?_, e2.trans h3.2.2.2.1, e3.trans h3.2.2.2.2⟩
        have hc : w.cell? a = some v := by rw [h3.2.1]; exact hi.cell c (List.mem_of_getElem? h3.2.2.1) v hv
        simp only [Sem.run, hc]
        exact e1
      · cases h
    · cases h
  | shape r0 k ih =>
    intro st r st' hi h hk
    simp only [semR] at h
    split at h
    · cases h
    · split at h
      · cases h
      · rename_i s hs
        have h1 := semR_mono _ _ _ _ h hk
        have h3 := h1.eqs _ (List.mem_cons_self ..)
        simp only [addr, Value.pointer.injEq, Option.some.injEq, Addr.mk.injEq, and_true] at h3
        obtain ⟨e1, e2, e3⟩ := ih _ _ _ _ (hi.of_cells (by rfl) (by rfl)) h hk
        refine ⟨?_, e2, e3⟩
        have := hi.shp s (List.mem_of_getElem? (nth_eq _ _ ▸ hs))
        simp only [Sem.run, h3, this]
        exact e1
  | frozen a k ih =>
    intro st r st' hi h hk
    simp only [semR] at h
    split at h
    · rename_i i c s1 hl
      have h3 := look_ok hl (semR_mono _ _ _ _ h hk)
      obtain ⟨e1, e2, e3⟩ := ih _ s1 r st' (hi.of_cells h3.2.2.2.1 h3.2.2.2.2) h hk
      refine ⟨?_, e2.trans h3.2.2.2.1, e3.trans h3.2.2.2.2⟩
      have hc : w.frozen? a = false := by rw [h3.2.1]; exact hi.free c (List.mem_of_getElem? h3.2.2.1)
      simp only [Sem.run, hc]
      exact e1
    · cases h
  | program k ih => intro st r st' hi h hk; simp only [semR] at h; exact ih _ _ _ _ hi h hk
  | mark m k ih => intro st r st' hi h hk; simp only [semR] at h; exact ih _ _ _ hi h hk
  | _ => intro st r st' hi h hk; simp [semR] at h

variable (S P)
def takeE (ops : Array Oper) (n : Nat) (env : Env) (o : Oper) (st : St) : Option (Value × St) :=
  match wantE S ops n env o st with
  | none => none
  | some (false, st1) => some (undef, st1)
  | some (true, st1) => match isSp (evalE n env) o with
    | true => match special P S (evalE n env) o st1 with
      | .yes v st2 => some (v, st2)
      | _ => none
    | false => match semR S P (execOp (evalE n env) o) st1 with
      | some (.value v, st2) => some (v, st2)
      | _ => none
variable {S P}

theorem takeE_mono {ops : Array Oper} {n : Nat} {env : Env} {o : Oper} {st st' : St} {v : Value} (h : takeE S P ops n env o st = some (v, st')) (hk : st'.Ok) : st.Ok := by
  unfold takeE at h
  split at h
  · cases h
  · rename_i s1 hw
    simp only [Option.some.injEq, Prod.mk.injEq] at h
    obtain ⟨rfl, rfl⟩ := h
    exact want_mono hw hk
  · rename_i s1 hw
    refine want_mono hw ?_
    split at h
    · split at h
      · rename_i hs
        simp only [Option.some.injEq, Prod.mk.injEq] at h
        obtain ⟨rfl, rfl⟩ := h
        exact (special_sound P hs hk).2.2.2
      · cases h
    · split at h
      · rename_i hs
        simp only [Option.some.injEq, Prod.mk.injEq] at h
        obtain ⟨rfl, rfl⟩ := h
        exact semR_mono _ _ _ _ hs hk
      · cases h

/-- What is taken first yields its value in every world that holds the list. -/
theorem take_sound {C : Nat → Nat → Prop} {B : Nat} {ops : Array Oper} {n : Nat} {env : Env} {o : Oper} {st st' : St} {v : Value} {a : Act} (he : EnvOk n env a)
    (h : takeE S P ops n env o st = some (v, st')) (hk : st'.Ok) :
    (Region.wanted o (yielded ops a.tmps) = true ∧ ∀ w, Inv C B w st → (execOp a.eval o).run P w = .ok (.value v) w) ∨ (Region.wanted o (yielded ops a.tmps) = false ∧ v = undef) := by
  unfold takeE at h
  split at h
  · cases h
  · rename_i s1 hw
    simp only [Option.some.injEq, Prod.mk.injEq] at h
    obtain ⟨rfl, rfl⟩ := h
    exact .inr ⟨(want_sound he hw hk).1, rfl⟩
  · rename_i s1 hw
    rw [he.eval] at h
    left
    split at h
    · split at h
      · rename_i hs
        simp only [Option.some.injEq, Prod.mk.injEq] at h
        obtain ⟨rfl, rfl⟩ := h
        obtain ⟨r1, r2, r3, r4⟩ := special_sound P hs hk
        exact ⟨(want_sound he hw r4).1, fun w _ => r1 w⟩
      · cases h
    · split at h
      · rename_i hs
        simp only [Option.some.injEq, Prod.mk.injEq] at h
        obtain ⟨rfl, rfl⟩ := h
        have hw2 := want_sound he hw (semR_mono _ _ _ _ hs hk)
        exact ⟨hw2.1, fun w hi => (semR_sound _ _ _ _ (hi.of_cells hw2.2.1 hw2.2.2.1) hs hk).1⟩
      · cases h
end
end Go.Proofs.YtmihblocomnfjaaDoor.Sy
