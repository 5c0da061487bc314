/- A walk that the kernel carries out: a function's own code from cut to cut (a cut: a loop's head), and a call whole. -/
import Derived.Test.YtmihblocomnfjaaDoorCon
set_option linter.unusedSimpArgs false
set_option linter.unusedVariables false
namespace Go.Proofs.YtmihblocomnfjaaDoor.Sy
open Go

/-- What is still to be done: a piece of code; a block's end; a round's end. -/
inductive Item where
  | code (c : Code)
  | ops (ops : Array Oper) (rest : List Oper)
  | blk (id : Nat)
  | round (i : Nat)

def after (P : Program) (X : Nat → Act → World → Prop) (Q : Exit → Act → World → Prop) : List Item → Exit → Act → World → Prop
  | [] => Q
  | .code c :: K => Exit.then (c.wp P (after P X Q K)) (after P X Q K)
  | .ops ops rest :: K => Exit.then (wpList P ops (after P X Q K) rest) (after P X Q K)
  | .blk id :: K => Exit.inBlock id (after P X Q K)
  | .round i :: K => Exit.then (X i) (after P X Q K)

/-- Where 'exit' leads. -/
def unwind (id : Nat) : List Item → Option (List Item)
  | [] => none
  | .code _ :: K => unwind id K
  | .ops _ _ :: K => unwind id K
  | .round _ :: K => unwind id K
  | .blk i :: K => match Nat.beq id i with
    | true => some K
    | false => unwind id K

inductive Stop where
  | fin
  | ret
  | loop (b : Code) (K : List Item)
  | again (i : Nat)
  | reg (K : List Item)
  | call (f : FuncId) (args : Array Value) (dst : Option Tmp) (ops : Array Oper) (rest : List Oper) (K : List Item)

/-- The walk stops ahead of this region (among the cuts). -/
def stopAt (r : Nat) : Nat := Nat.add 1000000 r
/-- Which operation is a call that the walk stops at. -/
def cutIdx (cuts : List FuncId) : List Oper → Nat → Option Nat
  | [], _ => none
  | o :: r, i => match o.op with
    | .call c => match c.callee with
      | .value (.func f) => match isIn' f cuts with
        | true => some i
        | false => cutIdx cuts r (i + 1)
      | _ => cutIdx cuts r (i + 1)
    | _ => cutIdx cuts r (i + 1)

/-- The first region's number: a loop's name. -/
def firstRegion : Code → Option Nat
  | .region id _ _ => some id
  | .seq a b => match firstRegion a with
    | some i => some i
    | none => firstRegion b
  | .cond _ a b => match firstRegion a with
    | some i => some i
    | none => firstRegion b
  | .block _ b => firstRegion b
  | .loop b => firstRegion b
  | .scope b => firstRegion b
  | _ => none

def isIn (l : List Nat) (o : Option Nat) : Bool :=
  match o with
  | none => false
  | some i => l.any (fun j => Nat.beq i j)

section
variable (S : Strat) (P : Program)

/-- Operations up to a call that the walk stops at. -/
def cutE (call : CallF) (ν : Key → Nat) (n : Nat) (cuts : List FuncId) (ops : Array Oper) (rest : List Oper) (K : List Item) (t m : Nat) (env : Env) (st : St) : Option (Stop × Nat × Env × St) :=
  match listE S P call ν ops n [t] (rest.take m) 0 env st with
  | none => none
  | some (env', st') => match rest.drop m with
    | [] => none
    | o :: r => match wantE S ops n env' o st' with
      | some (true, st2) => match calleeE (evalE n env') o with
        | some (f, args) => match hasBody P f with
          | true => some (.call f args o.dst ops r K, t + 1, env', st2)
          | false => none
        | none => none
      | _ => none

def topE (call : CallF) (ν : Key → Nat) (plans : Plans) (n : Nat) (unroll : List Nat) (cuts : List FuncId) : Nat → List Item → Nat → Env → St → Option (Stop × Nat × Env × St)
  | 0, _, _, _, _ => none
  | f + 1, K, t, env, st => match K with
    | [] => some (.fin, t, env, st)
    | .blk _ :: K => topE call ν plans n unroll cuts f K t env st
    | .round i :: _ => some (.again i, t, env, st)
    | .ops ops rest :: K => match cutIdx cuts rest 0 with
      | some m => cutE S P call ν n cuts ops rest K t m env st
      | none => match listE S P call ν ops n [t] rest 0 env st with
        | none => none
        | some (env', st') => topE call ν plans n unroll cuts f K (t + 1) env' st'
    | .code c :: K => match c with
      | .skip => topE call ν plans n unroll cuts f K t env st
      | .seq a b => topE call ν plans n unroll cuts f (.code a :: .code b :: K) t env st
      | .block id b => topE call ν plans n unroll cuts f (.code b :: .blk id :: K) t env st
      | .cond c a b => match evalE n env c with
        | .bool x => match st.guess S x with
          | none => none
          | some (g, st') => match g with
            | true => topE call ν plans n unroll cuts f (.code a :: K) t env st'
            | false => topE call ν plans n unroll cuts f (.code b :: K) t env st'
        | _ => none
      | .exit id => match unwind id K with
        | none => none
        | some K' => topE call ν plans n unroll cuts f K' t env st
      | .ret => some (.ret, t, env, st)
      | .region r ops draw => match isIn' (stopAt r) cuts with
        | true => some (.reg (.code (.region r ops draw) :: K), t, env, st)
        | false => match (match draw with | true => none | false => cutIdx cuts ops.toList 0) with
          | some m => cutE S P call ν n cuts ops ops.toList K t m env st
          | none => match codeE S P call ν plans n [] 2 (.region r ops draw) t env st with
            | some (.normal, t', env', st') => topE call ν plans n unroll cuts f K t' env' st'
            | _ => none
      | .loop b => match isIn unroll (firstRegion b) with
        | false => some (.loop b K, t, env, st)
        | true => match codeE S P call ν plans n [] 400 (.loop b) t env st with
          | none => none
          | some (e, t', env', st') => match e with
            | .normal => topE call ν plans n unroll cuts f K t' env' st'
            | .ret => some (.ret, t', env', st')
            | .exit id => match unwind id K with
              | none => none
              | some K' => topE call ν plans n unroll cuts f K' t' env' st'
      | _ => none

variable {S P}

theorem after_ret {X : Nat → Act → World → Prop} {Q : Exit → Act → World → Prop} {a : Act} {w : World} : ∀ K, Q .ret a w → after P X Q K .ret a w
  | [], h => h
  | .code _ :: K, h => after_ret K h
  | .ops _ _ :: K, h => after_ret K h
  | .blk _ :: K, h => after_ret K h
  | .round _ :: K, h => after_ret K h

theorem after_exit {X : Nat → Act → World → Prop} {Q : Exit → Act → World → Prop} {a : Act} {w : World} {id : Nat} : ∀ {K K' : List Item}, unwind id K = some K' → after P X Q K' .normal a w → after P X Q K (.exit id) a w
  | .code _ :: K, K', h, g => after_exit (K := K) h g
  | .ops _ _ :: K, K', h, g => after_exit (K := K) h g
  | .round _ :: K, K', h, g => after_exit (K := K) h g
  | .blk i :: K, K', h, g => by
    simp only [unwind] at h
    split at h
    · rename_i hb
      have := Nat.eq_of_beq_eq_true hb
      subst this
      simp only [Option.some.injEq] at h
      subst h
      simp only [after, Exit.inBlock, if_true]
      exact g
    · rename_i hb
      have : id ≠ i := fun e => by subst e; simp at hb
      simp only [after, Exit.inBlock, if_neg this]
      exact after_exit h g

/-- What stands at a cut. -/
structure At (C : Nat → Nat → Prop) (B : Nat) (n : Nat) (D : Dom) (w : World) (s : (Key → Nat) → Stop) (env' : (Key → Nat) → Env) (st' : (Key → Nat) → St) (s0 : Stop) (a' : Act) (w' : World) (D' : Dom) : Prop where
  ext : Dom.Ext [] D D'
  ends : ∀ ν, Ag D' ν → s ν = s0 ∧ EnvOk n (env' ν) a'
  fam : Fam C B D' w' st'
  sub : Sub (fun k i => C k i ∨ B ≤ k) w w'

def Goal (P : Program) (X : Nat → Act → World → Prop) (Q : Exit → Act → World → Prop) : Stop → Act → World → Prop
  | .fin, a, w => Q .normal a w
  | .ret, a, w => Q .ret a w
  | .loop b K, a, w => (Code.loop b).wp P (after P X Q K) a w
  | .again i, a, w => X i a w
  | .reg K, a, w => after P X Q K .normal a w
  | .call f args dst ops rest K, a, w => Calls P f args w fun e w' => ∃ v, e = .returned v ∧ wpList P ops (after P X Q K) rest (a.put dst v) w'

theorem cutE_mono {call : (Key → Nat) → CallF} (hc : CallOk P call) {ν : Key → Nat} {n : Nat} {cuts : List FuncId} {ops : Array Oper} {rest : List Oper} {K : List Item} {t m : Nat} {env : Env} {st : St} {s : Stop} {t' : Nat} {env' : Env} {st' : St}
    (h : cutE S P (call ν) ν n cuts ops rest K t m env st = some (s, t', env', st')) (hk : st'.Ok) : st.Ok := by
  unfold cutE at h
  split at h
  · cases h
  · rename_i env1 st1 hl
    split at h
    · cases h
    · split at h
      · rename_i st2 hw
        split at h
        · split at h
          · simp only [Option.some.injEq, Prod.mk.injEq] at h
            obtain ⟨_, _, _, rfl⟩ := h
            exact listE_mono hc _ _ _ _ _ _ hl (want_mono hw hk)
          · cases h
        · cases h
      · cases h

theorem topE_mono {call : (Key → Nat) → CallF} (hc : CallOk P call) {ν : Key → Nat} {plans : Plans} {n : Nat} {unroll : List Nat} {cuts : List FuncId} : ∀ (f : Nat) (K : List Item) (t : Nat) (env : Env) (st : St) (s : Stop) (t' : Nat) (env' : Env) (st' : St),
    topE S P (call ν) ν plans n unroll cuts f K t env st = some (s, t', env', st') → st'.Ok → st.Ok := by
  intro f
  induction f with
  | zero => intro K t env st s t' env' st' h; simp [topE] at h
  | succ f ih =>
    intro K t env st s t' env' st' h hk
    cases K with
    | nil => simp only [topE, Option.some.injEq, Prod.mk.injEq] at h; obtain ⟨_, _, _, rfl⟩ := h; exact hk
    | cons x K =>
      cases x with
      | blk id => exact ih _ _ _ _ _ _ _ _ h hk
      | round i => simp only [topE, Option.some.injEq, Prod.mk.injEq] at h; obtain ⟨_, _, _, rfl⟩ := h; exact hk
      | ops ops rest =>
        simp only [topE] at h
        split at h
        · exact cutE_mono hc h hk
        · split at h
          · cases h
          · rename_i hl
            exact listE_mono hc _ _ _ _ _ _ hl (ih _ _ _ _ _ _ _ _ h hk)
      | code c =>
        cases c with
        | skip => exact ih _ _ _ _ _ _ _ _ h hk
        | seq a b => exact ih _ _ _ _ _ _ _ _ h hk
        | block id b => exact ih _ _ _ _ _ _ _ _ h hk
        | cond c a b =>
          simp only [topE] at h
          split at h
          · split at h
            · cases h
            · rename_i g s1 hg
              split at h
              · exact (guess_ok hg (ih _ _ _ _ _ _ _ _ h hk)).1
              · exact (guess_ok hg (ih _ _ _ _ _ _ _ _ h hk)).1
          · cases h
        | exit id =>
          simp only [topE] at h
          split at h
          · cases h
          · exact ih _ _ _ _ _ _ _ _ h hk
        | ret => simp only [topE, Option.some.injEq, Prod.mk.injEq] at h; obtain ⟨_, _, _, rfl⟩ := h; exact hk
        | region r ops draw =>
          simp only [topE] at h
          split at h
          · simp only [Option.some.injEq, Prod.mk.injEq] at h; obtain ⟨_, _, _, rfl⟩ := h; exact hk
          · split at h
            · exact cutE_mono hc h hk
            · split at h
              · rename_i hco
                exact codeE_mono hc _ _ _ _ _ _ _ _ _ hco (ih _ _ _ _ _ _ _ _ h hk)
              · cases h
        | loop b =>
          simp only [topE] at h
          split at h
          · simp only [Option.some.injEq, Prod.mk.injEq] at h; obtain ⟨_, _, _, rfl⟩ := h; exact hk
          · split at h
            · cases h
            · rename_i hco
              refine codeE_mono hc _ _ _ _ _ _ _ _ _ hco ?_
              split at h
              · exact ih _ _ _ _ _ _ _ _ h hk
              · simp only [Option.some.injEq, Prod.mk.injEq] at h; obtain ⟨_, _, _, rfl⟩ := h; exact hk
              · split at h
                · cases h
                · exact ih _ _ _ _ _ _ _ _ h hk
        | _ => simp [topE] at h

theorem cut_sound (hL : LinkOk S P) {call : (Key → Nat) → CallF} (hc : CallOk P call) {C : Nat → Nat → Prop} {B : Nat} {n : Nat} {cuts : List FuncId} {X : Nat → Act → World → Prop} {Q : Exit → Act → World → Prop} {ops : Array Oper} {rest : List Oper} {K : List Item} {t m : Nat} {a : Act} {w : World} {D : Dom}
    {env : (Key → Nat) → Env} {st : (Key → Nat) → St} {s : (Key → Nat) → Stop} {t' : (Key → Nat) → Nat} {env' : (Key → Nat) → Env} {st' : (Key → Nat) → St} (hB : B ≤ w.heap.size) (hf : ∀ t2, t ≤ t2 → ∀ k, [t2] <:+ k → D k = none) (hi : ∀ ν, Ag D ν → EnvOk n (env ν) a) (hfam : Fam C B D w st)
    (h : ∀ ν, Ag D ν → cutE S P (call ν) ν n cuts ops rest K t m (env ν) (st ν) = some (s ν, t' ν, env' ν, st' ν) ∧ (st' ν).Ok)
    (hQ : ∀ s0 a' w' D', At C B n D w s env' st' s0 a' w' D' → Goal P X Q s0 a' w') : wpList P ops (after P X Q K) rest a w := by
  have parts : ∀ ν, Ag D ν → ∃ st1 o r f args, listE S P (call ν) ν ops n [t] (rest.take m) 0 (env ν) (st ν) = some (env' ν, st1) ∧ st1.Ok ∧ rest.drop m = o :: r ∧ wantE S ops n (env' ν) o st1 = some (true, st' ν) ∧ calleeE (evalE n (env' ν)) o = some (f, args) ∧ hasBody P f = true ∧ s ν = .call f args o.dst ops r K := fun ν hν => by
    obtain ⟨h1, h2⟩ := h ν hν
    unfold cutE at h1
    split at h1
    · cases h1
    · rename_i env1 st1 hl
      split at h1
      · cases h1
      · rename_i o r hr
        split at h1
        · rename_i st2 hw
          split at h1
          · rename_i f args hcal
            split at h1
            · rename_i hb
              simp only [Option.some.injEq, Prod.mk.injEq] at h1
              obtain ⟨q1, _, q3, q4⟩ := h1
              subst q3 q4
              exact ⟨st1, o, r, f, args, hl, want_mono hw h2, hr, hw, hcal, hb, q1.symm⟩
            · cases h1
          · cases h1
        · cases h1
  obtain ⟨st1, hst1⟩ := pick (D := D) (st (fun _ => 0)) (Q := fun ν z => ∃ o r f args, listE S P (call ν) ν ops n [t] (rest.take m) 0 (env ν) (st ν) = some (env' ν, z) ∧ z.Ok ∧ rest.drop m = o :: r ∧ wantE S ops n (env' ν) o z = some (true, st' ν) ∧ calleeE (evalE n (env' ν)) o = some (f, args) ∧ hasBody P f = true ∧ s ν = .call f args o.dst ops r K) parts
  obtain ⟨o, r, _, _, _, _, hr, _⟩ := hst1 _ (Ag.some D)
  rw [← List.take_append_drop m rest, hr]
  refine list_sound2 hL hc (C := C) (B := B) (n := n) (tp := [t]) (rest.take m) 0 a w D env st env' st1 hB (fun j _ k hk => hf t (Nat.le_refl _) k ((List.suffix_cons _ _).trans hk)) hi hfam (fun ν hν => ?_) (fun a' w' D' hx hy hy' hz => ?_)
  · obtain ⟨_, _, _, _, g1, g2, _⟩ := hst1 ν hν
    exact ⟨g1, g2⟩
  · have all : ∀ ν, Ag D' ν → ∃ f args, wantE S ops n (env' ν) o (st1 ν) = some (true, st' ν) ∧ calleeE a'.eval o = some (f, args) ∧ hasBody P f = true ∧ s ν = .call f args o.dst ops r K := fun ν hν => by
      obtain ⟨o', r', f, args, _, _, g3, g4, g5, g6, g7⟩ := hst1 ν (hν.ext hx)
      rw [hr] at g3
      cases g3
      rw [(hy ν hν).eval] at g5
      exact ⟨f, args, g4, g5, g6, g7⟩
    obtain ⟨f, args, w1, c1, b1, s1⟩ := all _ (Ag.some D')
    have hk1 := (h _ ((Ag.some D').ext hx)).2
    have hwd := (want_sound (hy _ (Ag.some D')) w1 hk1).1
    have hgoal := hQ (.call f args o.dst ops r K) a' w' D' ⟨hx.mono ⟨[t], rfl⟩, fun ν hν => ?_, hy'.of_cells fun ν hν => ?_, hz⟩
    · refine wpList_step fun K0 hK0 => ?_
      rw [← hwd, if_pos rfl]
      unfold Oper.wp
      obtain ⟨fn, hfn, hbody⟩ : ∃ fn, P.funcs[f]? = some fn ∧ fn.body.isSome = true := by
        unfold hasBody at b1
        split at b1
        · rename_i fn hfn; exact ⟨fn, hfn, b1⟩
        · cases b1
      rw [callee_exec c1, callFunc_body hfn (hL.name _ _ hfn) hbody]
      exact hgoal.mono fun e w2 ⟨v, he, hv⟩ => by subst he; exact hK0 _ _ hv
    · obtain ⟨f', args', _, c2, _, s2⟩ := all ν hν
      rw [c1] at c2
      cases c2
      exact ⟨s2, hy ν hν⟩
    · obtain ⟨f', args', w2, _⟩ := all ν hν
      obtain ⟨_, q2, q3, _⟩ := want_sound (hy ν hν) w2 (h ν (hν.ext hx)).2
      exact ⟨q2, q3⟩

theorem top_sound (hL : LinkOk S P) {call : (Key → Nat) → CallF} (hc : CallOk P call) (hmix : P.follows .mixedOrders = true) {C : Nat → Nat → Prop} {B : Nat} {plans : Plans} (hplans : plans.Fixed) {n : Nat} {unroll : List Nat} {cuts : List FuncId} {X : Nat → Act → World → Prop} {Q : Exit → Act → World → Prop} :
    ∀ (f : Nat) (K : List Item) (t : Nat) (a : Act) (w : World) (D : Dom) (env : (Key → Nat) → Env) (st : (Key → Nat) → St) (s : (Key → Nat) → Stop) (t' : (Key → Nat) → Nat) (env' : (Key → Nat) → Env) (st' : (Key → Nat) → St),
      B ≤ w.heap.size → (∀ t2, t ≤ t2 → ∀ k, [t2] <:+ k → D k = none) → (∀ ν, Ag D ν → EnvOk n (env ν) a) → Fam C B D w st →
      (∀ ν, Ag D ν → topE S P (call ν) ν plans n unroll cuts f K t (env ν) (st ν) = some (s ν, t' ν, env' ν, st' ν) ∧ (st' ν).Ok) →
      (∀ s0 a' w' D', At C B n D w s env' st' s0 a' w' D' → Goal P X Q s0 a' w') → after P X Q K .normal a w := by
  intro f
  induction f with
  | zero => intro K t a w D env st s t' env' st' hB hf hi hfam h; have := (h _ (Ag.some D)).1; simp [topE] at this
  | succ f ih =>
    intro K t a w D env st s t' env' st' hB hf hi hfam h hQ
    have now : ∀ s0, (∀ ν, Ag D ν → some (s0, t, env ν, st ν) = some (s ν, t' ν, env' ν, st' ν)) → Goal P X Q s0 a w := fun s0 hh => by
      have e : ∀ ν, Ag D ν → s ν = s0 ∧ env' ν = env ν ∧ st' ν = st ν := fun ν hν => by
        have := hh ν hν
        simp only [Option.some.injEq, Prod.mk.injEq] at this
        exact ⟨this.1.symm, this.2.2.1.symm, this.2.2.2.symm⟩
      exact hQ s0 a w D ⟨Dom.Ext.refl _ _, fun ν hν => ⟨(e ν hν).1, (e ν hν).2.1 ▸ hi ν hν⟩, hfam.congr fun ν hν => (e ν hν).2.2, Sub.refl _ _⟩
    -- a piece of code whose own walk ends
    have piece : ∀ (g : Nat) (c : Code) (K : List Item), (∀ ν, Ag D ν → ∃ e t1 env1 st1, codeE S P (call ν) ν plans n [] g c t (env ν) (st ν) = some (e, t1, env1, st1) ∧ (match e with
          | .normal => topE S P (call ν) ν plans n unroll cuts f K t1 env1 st1
          | .ret => some (.ret, t1, env1, st1)
          | .exit id => match unwind id K with
            | none => none
            | some K' => topE S P (call ν) ν plans n unroll cuts f K' t1 env1 st1) = some (s ν, t' ν, env' ν, st' ν)) → c.wp P (after P X Q K) a w := fun g c K hh => by
      obtain ⟨z, hz⟩ := pick (D := D) ((Ex.normal, t, env (fun _ => 0), st (fun _ => 0)) : Ex × Nat × Env × St) (Q := fun ν z => codeE S P (call ν) ν plans n [] g c t (env ν) (st ν) = some (z.1, z.2.1, z.2.2.1, z.2.2.2) ∧ (match z.1 with
          | .normal => topE S P (call ν) ν plans n unroll cuts f K z.2.1 z.2.2.1 z.2.2.2
          | .ret => some (.ret, z.2.1, z.2.2.1, z.2.2.2)
          | .exit id => match unwind id K with
            | none => none
            | some K' => topE S P (call ν) ν plans n unroll cuts f K' z.2.1 z.2.2.1 z.2.2.2) = some (s ν, t' ν, env' ν, st' ν) ∧ z.2.2.2.Ok) (fun ν hν => by
        obtain ⟨e, t1, env1, st1, h1, h2⟩ := hh ν hν
        refine ⟨(e, t1, env1, st1), h1, h2, ?_⟩
        have hk := (h ν hν).2
        cases e with
        | normal => exact topE_mono hc _ _ _ _ _ _ _ _ _ h2 hk
        | ret => simp only [Option.some.injEq, Prod.mk.injEq] at h2; rw [h2.2.2.2]; exact hk
        | exit id =>
          simp only at h2
          split at h2
          · cases h2
          · exact topE_mono hc _ _ _ _ _ _ _ _ _ h2 hk)
      refine (code_sound2 hL hc hmix (C := C) (B := B) hplans (n := n) (p := []) g c t a w D env st (fun ν => (z ν).1) (fun ν => (z ν).2.1) (fun ν => (z ν).2.2.1) (fun ν => (z ν).2.2.2) (after P X Q K) hB hf hi hfam (fun ν hν => ⟨(hz ν hν).1, (hz ν hν).2.2⟩) (fun e a1 w1 t1 D1 hb => ?_)).1
      have hag : ∀ ν, Ag D1 ν → Ag D ν := fun ν hν => hν.ext hb.ext
      have step : ∀ K2, (∀ ν, Ag D1 ν → topE S P (call ν) ν plans n unroll cuts f K2 t1 (z ν).2.2.1 (z ν).2.2.2 = some (s ν, t' ν, env' ν, st' ν)) → after P X Q K2 .normal a1 w1 := fun K2 hK2 =>
        ih K2 t1 a1 w1 D1 (fun ν => (z ν).2.2.1) (fun ν => (z ν).2.2.2) s t' env' st' (Nat.le_trans hB hb.sub.size) hb.free (fun ν hν => (hb.ends ν hν).2.2) hb.fam (fun ν hν => ⟨hK2 ν hν, (h ν (hag ν hν)).2⟩)
          (fun s0 a' w' D' hA => hQ s0 a' w' D' ⟨hb.ext.trans hA.ext, hA.ends, hA.fam, Sub.trans (B := w.heap.size) hb.sub (hA.sub.mono fun k i hh => .inl hh) (Nat.le_refl _)⟩)
      have all : ∀ ν, Ag D1 ν → (match (generalizing := false) e with
          | .normal => topE S P (call ν) ν plans n unroll cuts f K t1 (z ν).2.2.1 (z ν).2.2.2
          | .ret => some (.ret, t1, (z ν).2.2.1, (z ν).2.2.2)
          | .exit id => match unwind id K with
            | none => none
            | some K' => topE S P (call ν) ν plans n unroll cuts f K' t1 (z ν).2.2.1 (z ν).2.2.2) = some (s ν, t' ν, env' ν, st' ν) := fun ν hν => by
        have q := (hz ν (hag ν hν)).2.1
        obtain ⟨q1, q2, _⟩ := hb.ends ν hν
        rw [q1, q2] at q
        exact q
      cases e with
      | normal => exact step K all
      | ret =>
        refine after_ret K (hQ .ret a1 w1 D1 ⟨hb.ext, fun ν hν => ?_, ?_, hb.sub⟩)
        · have := all ν hν
          simp only [Option.some.injEq, Prod.mk.injEq] at this
          exact ⟨this.1.symm, this.2.2.1 ▸ (hb.ends ν hν).2.2⟩
        · exact hb.fam.congr fun ν hν => by
            have := all ν hν
            simp only [Option.some.injEq, Prod.mk.injEq] at this
            exact this.2.2.2.symm
      | exit id =>
        simp only at all
        cases hu : unwind id K with
        | none => have := all _ (Ag.some D1); rw [hu] at this; cases this
        | some K' => exact after_exit hu (step K' (fun ν hν => by have := all ν hν; rw [hu] at this; exact this))
    cases K with
    | nil => exact now .fin (fun ν hν => by have := (h ν hν).1; simpa only [topE] using this)
    | cons x K =>
      cases x with
      | blk id => exact ih K t a w D env st s t' env' st' hB hf hi hfam h hQ
      | round i => exact now (.again i) (fun ν hν => by have := (h ν hν).1; simpa only [topE] using this)
      | ops ops rest =>
        show wpList P ops (after P X Q K) rest a w
        cases hc0 : cutIdx cuts rest 0 with
        | some m => exact cut_sound hL hc hB hf hi hfam (fun ν hν => by have := h ν hν; simp only [topE, hc0] at this; exact this) hQ
        | none =>
          obtain ⟨g, hg⟩ := pick (D := D) ((env (fun _ => 0), st (fun _ => 0)) : Env × St) (Q := fun ν y => listE S P (call ν) ν ops n [t] rest 0 (env ν) (st ν) = some (y.1, y.2) ∧ y.2.Ok ∧ topE S P (call ν) ν plans n unroll cuts f K (t + 1) y.1 y.2 = some (s ν, t' ν, env' ν, st' ν)) (fun ν hν => by
            obtain ⟨h1, h2⟩ := h ν hν
            simp only [topE, hc0] at h1
            split at h1
            · cases h1
            · rename_i env1 st1 hl
              exact ⟨(env1, st1), hl, topE_mono hc _ _ _ _ _ _ _ _ _ h1 h2, h1⟩)
          refine list_sound hL (C := C) (B := B) (n := n) (tp := [t]) hc rest 0 a w D env st (fun ν => (g ν).1) (fun ν => (g ν).2) hB (fun j _ k hk => hf t (Nat.le_refl _) k ((List.suffix_cons _ _).trans hk)) hi hfam (fun ν hν => ⟨(hg ν hν).1, (hg ν hν).2.1⟩) (fun a' w' D' hx hy hy' hz => ?_)
          refine ih K (t + 1) a' w' D' (fun ν => (g ν).1) (fun ν => (g ν).2) s t' env' st' (Nat.le_trans hB hz.size) (fun t2 ht k hk => ?_) hy hy' (fun ν hν => ⟨(hg ν (hν.ext hx)).2.2, (h ν (hν.ext hx)).2⟩)
            (fun s0 a2 w2 D2 hA => hQ s0 a2 w2 D2 ⟨(hx.mono ⟨[t], rfl⟩).trans hA.ext, hA.ends, hA.fam, Sub.trans (B := w.heap.size) hz (hA.sub.mono fun k i hh => .inl hh) (Nat.le_refl _)⟩)
          rw [hx.new k (fun hh => by have := suffix_ne (l := []) hk hh; omega)]
          exact hf t2 (by omega) k hk
      | code c =>
        show c.wp P (after P X Q K) a w
        cases c with
        | skip => exact wp_skip (ih K t a w D env st s t' env' st' hB hf hi hfam h hQ)
        | seq x y => exact wp_seq (ih (.code x :: .code y :: K) t a w D env st s t' env' st' hB hf hi hfam h hQ)
        | block id b => exact wp_block (ih (.code b :: .blk id :: K) t a w D env st s t' env' st' hB hf hi hfam h hQ)
        | cond c x y =>
          have key : ∀ ν, Ag D ν → ∃ b s1, a.eval c = .bool b ∧ s1.cells = (st ν).cells ∧ s1.shapes = (st ν).shapes ∧ topE S P (call ν) ν plans n unroll cuts f (.code (if b then x else y) :: K) t (env ν) s1 = some (s ν, t' ν, env' ν, st' ν) := fun ν hν => by
            obtain ⟨h1, h2⟩ := h ν hν
            simp only [topE] at h1
            rw [(hi ν hν).eval] at h1
            split at h1
            · rename_i b hb
              split at h1
              · cases h1
              · rename_i g s1 hg
                cases g with
                | true =>
                  obtain ⟨_, r2, r3, r4⟩ := guess_ok hg (topE_mono hc _ _ _ _ _ _ _ _ _ h1 h2)
                  exact ⟨b, s1, hb, r3, r4, by rw [r2]; exact h1⟩
                | false =>
                  obtain ⟨_, r2, r3, r4⟩ := guess_ok hg (topE_mono hc _ _ _ _ _ _ _ _ _ h1 h2)
                  exact ⟨b, s1, hb, r3, r4, by rw [r2]; exact h1⟩
            · cases h1
          obtain ⟨b, _, hb, _⟩ := key _ (Ag.some D)
          obtain ⟨g, hg⟩ := pick (D := D) (st (fun _ => 0)) (Q := fun ν s1 => s1.cells = (st ν).cells ∧ s1.shapes = (st ν).shapes ∧ topE S P (call ν) ν plans n unroll cuts f (.code (if b then x else y) :: K) t (env ν) s1 = some (s ν, t' ν, env' ν, st' ν)) (fun ν hν => by
            obtain ⟨b', s1, h1, h2⟩ := key ν hν
            rw [hb] at h1
            cases h1
            exact ⟨s1, h2⟩)
          exact wp_cond hb (ih (.code (if b then x else y) :: K) t a w D env g s t' env' st' hB hf hi (hfam.of_cells fun ν hν => ⟨(hg ν hν).1, (hg ν hν).2.1⟩) (fun ν hν => ⟨(hg ν hν).2.2, (h ν hν).2⟩) hQ)
        | exit id =>
          have h0 := (h _ (Ag.some D)).1
          simp only [topE] at h0
          split at h0
          · cases h0
          · rename_i K' hu
            exact wp_exit (after_exit hu (ih K' t a w D env st s t' env' st' hB hf hi hfam (fun ν hν => ⟨by have := (h ν hν).1; simp only [topE, hu] at this; exact this, (h ν hν).2⟩) hQ))
        | ret => exact wp_ret (after_ret K (now .ret (fun ν hν => by have := (h ν hν).1; simpa only [topE] using this)))
        | region r ops draw =>
          cases hs0 : isIn' (stopAt r) cuts with
          | true => exact now (.reg (.code (.region r ops draw) :: K)) (fun ν hν => by have := (h ν hν).1; simpa only [topE, hs0] using this)
          | false =>
            cases hd : (match draw with | true => none | false => cutIdx cuts ops.toList 0) with
            | some m =>
              cases draw with
              | true => cases hd
              | false => exact wp_region_list (cut_sound hL hc hB hf hi hfam (fun ν hν => by have := h ν hν; simp only [topE, hs0, hd] at this; exact this) hQ)
            | none =>
              refine piece 2 _ K (fun ν hν => ?_)
              have h1 := (h ν hν).1
              simp only [topE, hs0, hd] at h1
              split at h1
              · rename_i t1 env1 st1 hco
                exact ⟨.normal, t1, env1, st1, hco, h1⟩
              · cases h1
        | loop b =>
          cases hu : isIn unroll (firstRegion b) with
          | false => exact now (.loop b K) (fun ν hν => by have := (h ν hν).1; simpa only [topE, hu] using this)
          | true =>
            refine piece 400 _ K (fun ν hν => ?_)
            have h1 := (h ν hν).1
            simp only [topE, hu] at h1
            split at h1
            · cases h1
            · rename_i e t1 env1 st1 hco
              refine ⟨e, t1, env1, st1, hco, ?_⟩
              cases e <;> exact h1
        | _ => have := (h _ (Ag.some D)).1; simp [topE] at this
end
end Go.Proofs.YtmihblocomnfjaaDoor.Sy
