/- A walk that the kernel carries out: a function's own code from cut to cut (a cut: a loop's head), and a call whole. -/
import Derived.Test.YthglajoihlaldaaDoorCon
namespace Go.Proofs.YthglajoihlaldaaDoor.Sy
open Go

/-- What is still to be done: a piece of code; a block's end; a round's end. -/
inductive Item where
  | code (c : Code)
  | blk (id : Nat)
  | round (i : Nat)

def after (P : Program) (X : Nat → Act → World → Prop) (Q : Exit → Act → World → Prop) : List Item → Exit → Act → World → Prop
  | [] => Q
  | .code c :: K => Exit.then (c.wp P (after P X Q K)) (after P X Q K)
  | .blk id :: K => Exit.inBlock id (after P X Q K)
  | .round i :: K => Exit.then (X i) (after P X Q K)

/-- Where 'exit' leads. -/
def unwind (id : Nat) : List Item → Option (List Item)
  | [] => none
  | .code _ :: K => unwind id K
  | .round _ :: K => unwind id K
  | .blk i :: K => match Nat.beq id i with
    | true => some K
    | false => unwind id K

inductive Stop where
  | fin
  | ret
  | loop (b : Code) (K : List Item)
  | again (i : Nat)

/-- The first region's number: a loop's name. -/
def firstRegion : Code → Option Nat
  | .region id _ _ => some id
  | .seq a b => match firstRegion a with
    | some i => some i
    | none => firstRegion b
  | .cond _ a b => match firstRegion a with
    | some i => some i
    | none => firstRegion b
  | .block _ b => firstRegion b
  | .loop b => firstRegion b
  | .scope b => firstRegion b
  | _ => none

def isIn (l : List Nat) (o : Option Nat) : Bool :=
  match o with
  | none => false
  | some i => l.any (fun j => Nat.beq i j)

section
variable (S : Strat) (P : Program)

def topE (call : CallF) (ν : Key → Nat) (plans : Plans) (n : Nat) (unroll : List Nat) : Nat → List Item → Nat → Env → St → Option (Stop × Nat × Env × St)
  | 0, _, _, _, _ => none
  | f + 1, K, t, env, st => match K with
    | [] => some (.fin, t, env, st)
    | .blk _ :: K => topE call ν plans n unroll f K t env st
    | .round i :: _ => some (.again i, t, env, st)
    | .code c :: K => match c with
      | .skip => topE call ν plans n unroll f K t env st
      | .seq a b => topE call ν plans n unroll f (.code a :: .code b :: K) t env st
      | .block id b => topE call ν plans n unroll f (.code b :: .blk id :: K) t env st
      | .cond c a b => match evalE n env c with
        | .bool x => match st.guess S x with
          | none => none
          | some (g, st') => match g with
            | true => topE call ν plans n unroll f (.code a :: K) t env st'
            | false => topE call ν plans n unroll f (.code b :: K) t env st'
        | _ => none
      | .exit id => match unwind id K with
        | none => none
        | some K' => topE call ν plans n unroll f K' t env st
      | .ret => some (.ret, t, env, st)
      | .region r ops draw => match codeE S P call ν plans n [] 2 (.region r ops draw) t env st with
        | some (.normal, t', env', st') => topE call ν plans n unroll f K t' env' st'
        | _ => none
      | .loop b => match isIn unroll (firstRegion b) with
        | false => some (.loop b K, t, env, st)
        | true => match codeE S P call ν plans n [] 400 (.loop b) t env st with
          | none => none
          | some (e, t', env', st') => match e with
            | .normal => topE call ν plans n unroll f K t' env' st'
            | .ret => some (.ret, t', env', st')
            | .exit id => match unwind id K with
              | none => none
              | some K' => topE call ν plans n unroll f K' t' env' st'
      | _ => none

variable {S P}

theorem after_ret {X : Nat → Act → World → Prop} {Q : Exit → Act → World → Prop} {a : Act} {w : World} : ∀ K, Q .ret a w → after P X Q K .ret a w
  | [], h => h
  | .code _ :: K, h => after_ret K h
  | .blk _ :: K, h => after_ret K h
  | .round _ :: K, h => after_ret K h

theorem after_exit {X : Nat → Act → World → Prop} {Q : Exit → Act → World → Prop} {a : Act} {w : World} {id : Nat} : ∀ {K K' : List Item}, unwind id K = some K' → after P X Q K' .normal a w → after P X Q K (.exit id) a w
  | .code _ :: K, K', h, g => after_exit (K := K) h g
  | .round _ :: K, K', h, g => after_exit (K := K) h g
  | .blk i :: K, K', h, g => by
    simp only [unwind] at h
    split at h
    · rename_i hb
      have := Nat.eq_of_beq_eq_true hb
      subst this
      simp only [Option.some.injEq] at h
      subst h
      simp only [after, Exit.inBlock, if_true]
      exact g
    · rename_i hb
      have : id ≠ i := fun e => by subst e; simp at hb
      simp only [after, Exit.inBlock, if_neg this]
      exact after_exit h g

/-- What stands at a cut. -/
structure At (C : Nat → Nat → Prop) (B : Nat) (n : Nat) (D : Dom) (w : World) (s : (Key → Nat) → Stop) (env' : (Key → Nat) → Env) (st' : (Key → Nat) → St) (s0 : Stop) (a' : Act) (w' : World) (D' : Dom) : Prop where
  ext : Dom.Ext [] D D'
  ends : ∀ ν, Ag D' ν → s ν = s0 ∧ EnvOk n (env' ν) a'
  fam : Fam C B D' w' st'
  sub : Sub (fun k i => C k i ∨ B ≤ k) w w'

def Goal (P : Program) (X : Nat → Act → World → Prop) (Q : Exit → Act → World → Prop) : Stop → Act → World → Prop
  | .fin, a, w => Q .normal a w
  | .ret, a, w => Q .ret a w
  | .loop b K, a, w => (Code.loop b).wp P (after P X Q K) a w
  | .again i, a, w => X i a w

theorem topE_mono {call : (Key → Nat) → CallF} (hc : CallOk P call) {ν : Key → Nat} {plans : Plans} {n : Nat} {unroll : List Nat} : ∀ (f : Nat) (K : List Item) (t : Nat) (env : Env) (st : St) (s : Stop) (t' : Nat) (env' : Env) (st' : St),
    topE S P (call ν) ν plans n unroll f K t env st = some (s, t', env', st') → st'.Ok → st.Ok := by
  intro f
  induction f with
  | zero => intro K t env st s t' env' st' h; simp [topE] at h
  | succ f ih =>
    intro K t env st s t' env' st' h hk
    cases K with
    | nil => simp only [topE, Option.some.injEq, Prod.mk.injEq] at h; obtain ⟨_, _, _, rfl⟩ := h; exact hk
    | cons x K =>
      cases x with
      | blk id => exact ih _ _ _ _ _ _ _ _ h hk
      | round i => simp only [topE, Option.some.injEq, Prod.mk.injEq] at h; obtain ⟨_, _, _, rfl⟩ := h; exact hk
      | code c =>
        cases c with
        | skip => exact ih _ _ _ _ _ _ _ _ h hk
        | seq a b => exact ih _ _ _ _ _ _ _ _ h hk
        | block id b => exact ih _ _ _ _ _ _ _ _ h hk
        | cond c a b =>
          simp only [topE] at h
          split at h
          · split at h
            · cases h
            · rename_i g s1 hg
              split at h
              · exact (guess_ok hg (ih _ _ _ _ _ _ _ _ h hk)).1
              · exact (guess_ok hg (ih _ _ _ _ _ _ _ _ h hk)).1
          · cases h
        | exit id =>
          simp only [topE] at h
          split at h
          · cases h
          · exact ih _ _ _ _ _ _ _ _ h hk
        | ret => simp only [topE, Option.some.injEq, Prod.mk.injEq] at h; obtain ⟨_, _, _, rfl⟩ := h; exact hk
        | region r ops draw =>
          simp only [topE] at h
          split at h
          · rename_i hco
            exact codeE_mono hc _ _ _ _ _ _ _ _ _ hco (ih _ _ _ _ _ _ _ _ h hk)
          · cases h
        | loop b =>
          simp only [topE] at h
          split at h
          · simp only [Option.some.injEq, Prod.mk.injEq] at h; obtain ⟨_, _, _, rfl⟩ := h; exact hk
          · split at h
            · cases h
            · rename_i hco
              refine codeE_mono hc _ _ _ _ _ _ _ _ _ hco ?_
              split at h
              · exact ih _ _ _ _ _ _ _ _ h hk
              · simp only [Option.some.injEq, Prod.mk.injEq] at h; obtain ⟨_, _, _, rfl⟩ := h; exact hk
              · split at h
                · cases h
                · exact ih _ _ _ _ _ _ _ _ h hk
        | _ => simp [topE] at h

theorem top_sound (hL : LinkOk S P) {call : (Key → Nat) → CallF} (hc : CallOk P call) (hmix : P.follows .mixedOrders = true) {C : Nat → Nat → Prop} {B : Nat} {plans : Plans} (hplans : plans.Fixed) {n : Nat} {unroll : List Nat} {X : Nat → Act → World → Prop} {Q : Exit → Act → World → Prop} :
    ∀ (f : Nat) (K : List Item) (t : Nat) (a : Act) (w : World) (D : Dom) (env : (Key → Nat) → Env) (st : (Key → Nat) → St) (s : (Key → Nat) → Stop) (t' : (Key → Nat) → Nat) (env' : (Key → Nat) → Env) (st' : (Key → Nat) → St),
      B ≤ w.heap.size → (∀ t2, t ≤ t2 → ∀ k, [t2] <:+ k → D k = none) → (∀ ν, Ag D ν → EnvOk n (env ν) a) → Fam C B D w st →
      (∀ ν, Ag D ν → topE S P (call ν) ν plans n unroll f K t (env ν) (st ν) = some (s ν, t' ν, env' ν, st' ν) ∧ (st' ν).Ok) →
      (∀ s0 a' w' D', At C B n D w s env' st' s0 a' w' D' → Goal P X Q s0 a' w') → after P X Q K .normal a w := by
  intro f
  induction f with
  | zero => intro K t a w D env st s t' env' st' hB hf hi hfam h; have := (h _ (Ag.some D)).1; simp [topE] at this
  | succ f ih =>
    intro K t a w D env st s t' env' st' hB hf hi hfam h hQ
    have now : ∀ s0, (∀ ν, Ag D ν → some (s0, t, env ν, st ν) = some (s ν, t' ν, env' ν, st' ν)) → Goal P X Q s0 a w := fun s0 hh => by
      have e : ∀ ν, Ag D ν → s ν = s0 ∧ env' ν = env ν ∧ st' ν = st ν := fun ν hν => by
        have := hh ν hν
        simp only [Option.some.injEq, Prod.mk.injEq] at this
        exact ⟨this.1.symm, this.2.2.1.symm, this.2.2.2.symm⟩
      exact hQ s0 a w D ⟨Dom.Ext.refl _ _, fun ν hν => ⟨(e ν hν).1, (e ν hν).2.1 ▸ hi ν hν⟩, hfam.congr fun ν hν => (e ν hν).2.2, Sub.refl _ _⟩
    -- a piece of code whose own walk ends
    have piece : ∀ (g : Nat) (c : Code) (K : List Item), (∀ ν, Ag D ν → ∃ e t1 env1 st1, codeE S P (call ν) ν plans n [] g c t (env ν) (st ν) = some (e, t1, env1, st1) ∧ (match e with
          | .normal => topE S P (call ν) ν plans n unroll f K t1 env1 st1
          | .ret => some (.ret, t1, env1, st1)
          | .exit id => match unwind id K with
            | none => none
            | some K' => topE S P (call ν) ν plans n unroll f K' t1 env1 st1) = some (s ν, t' ν, env' ν, st' ν)) → c.wp P (after P X Q K) a w := fun g c K hh => by
      obtain ⟨z, hz⟩ := pick (D := D) ((Ex.normal, t, env (fun _ => 0), st (fun _ => 0)) : Ex × Nat × Env × St) (Q := fun ν z => codeE S P (call ν) ν plans n [] g c t (env ν) (st ν) = some (z.1, z.2.1, z.2.2.1, z.2.2.2) ∧ (match z.1 with
          | .normal => topE S P (call ν) ν plans n unroll f K z.2.1 z.2.2.1 z.2.2.2
          | .ret => some (.ret, z.2.1, z.2.2.1, z.2.2.2)
          | .exit id => match unwind id K with
            | none => none
            | some K' => topE S P (call ν) ν plans n unroll f K' z.2.1 z.2.2.1 z.2.2.2) = some (s ν, t' ν, env' ν, st' ν) ∧ z.2.2.2.Ok) (fun ν hν => by
        obtain ⟨e, t1, env1, st1, h1, h2⟩ := hh ν hν
        refine ⟨(e, t1, env1, st1), h1, h2, ?_⟩
        have hk := (h ν hν).2
        cases e with
        | normal => exact topE_mono hc _ _ _ _ _ _ _ _ _ h2 hk
        | ret => simp only [Option.some.injEq, Prod.mk.injEq] at h2; rw [h2.2.2.2]; exact hk
        | exit id =>
          simp only at h2
          split at h2
          · cases h2
          · exact topE_mono hc _ _ _ _ _ _ _ _ _ h2 hk)
      refine (code_sound2 hL hc hmix (C := C) (B := B) hplans (n := n) (p := []) g c t a w D env st (fun ν => (z ν).1) (fun ν => (z ν).2.1) (fun ν => (z ν).2.2.1) (fun ν => (z ν).2.2.2) (after P X Q K) hB hf hi hfam (fun ν hν => ⟨(hz ν hν).1, (hz ν hν).2.2⟩) (fun e a1 w1 t1 D1 hb => ?_)).1
      have hag : ∀ ν, Ag D1 ν → Ag D ν := fun ν hν => hν.ext hb.ext
      have step : ∀ K2, (∀ ν, Ag D1 ν → topE S P (call ν) ν plans n unroll f K2 t1 (z ν).2.2.1 (z ν).2.2.2 = some (s ν, t' ν, env' ν, st' ν)) → after P X Q K2 .normal a1 w1 := fun K2 hK2 =>
        ih K2 t1 a1 w1 D1 (fun ν => (z ν).2.2.1) (fun ν => (z ν).2.2.2) s t' env' st' (Nat.le_trans hB hb.sub.size) hb.free (fun ν hν => (hb.ends ν hν).2.2) hb.fam (fun ν hν => ⟨hK2 ν hν, (h ν (hag ν hν)).2⟩)
          (fun s0 a' w' D' hA => hQ s0 a' w' D' ⟨hb.ext.trans hA.ext, hA.ends, hA.fam, Sub.trans (B := w.heap.size) hb.sub (hA.sub.mono fun k i hh => .inl hh) (Nat.le_refl _)⟩)
      have all : ∀ ν, Ag D1 ν → (match (generalizing := false) e with
          | .normal => topE S P (call ν) ν plans n unroll f K t1 (z ν).2.2.1 (z ν).2.2.2
          | .ret => some (.ret, t1, (z ν).2.2.1, (z ν).2.2.2)
          | .exit id => match unwind id K with
            | none => none
            | some K' => topE S P (call ν) ν plans n unroll f K' t1 (z ν).2.2.1 (z ν).2.2.2) = some (s ν, t' ν, env' ν, st' ν) := fun ν hν => by
        have q := (hz ν (hag ν hν)).2.1
        obtain ⟨q1, q2, _⟩ := hb.ends ν hν
        rw [q1, q2] at q
        exact q
      cases e with
      | normal => exact step K all
      | ret =>
        refine after_ret K (hQ .ret a1 w1 D1 ⟨hb.ext, fun ν hν => ?_, ?_, hb.sub⟩)
        · have := all ν hν
          simp only [Option.some.injEq, Prod.mk.injEq] at this
          exact ⟨this.1.symm, this.2.2.1 ▸ (hb.ends ν hν).2.2⟩
        · exact hb.fam.congr fun ν hν => by
            have := all ν hν
            simp only [Option.some.injEq, Prod.mk.injEq] at this
            exact this.2.2.2.symm
      | exit id =>
        simp only at all
        cases hu : unwind id K with
        | none => have := all _ (Ag.some D1); rw [hu] at this; cases this
        | some K' => exact after_exit hu (step K' (fun ν hν => by have := all ν hν; rw [hu] at this; exact this))
    cases K with
    | nil => exact now .fin (fun ν hν => by have := (h ν hν).1; simpa only [topE] using this)
    | cons x K =>
      cases x with
      | blk id => exact ih K t a w D env st s t' env' st' hB hf hi hfam h hQ
      | round i => exact now (.again i) (fun ν hν => by have := (h ν hν).1; simpa only [topE] using this)
      | code c =>
        show c.wp P (after P X Q K) a w
        cases c with
        | skip => exact wp_skip (ih K t a w D env st s t' env' st' hB hf hi hfam h hQ)
        | seq x y => exact wp_seq (ih (.code x :: .code y :: K) t a w D env st s t' env' st' hB hf hi hfam h hQ)
        | block id b => exact wp_block (ih (.code b :: .blk id :: K) t a w D env st s t' env' st' hB hf hi hfam h hQ)
        | cond c x y =>
          have key : ∀ ν, Ag D ν → ∃ b s1, a.eval c = .bool b ∧ s1.cells = (st ν).cells ∧ s1.shapes = (st ν).shapes ∧ topE S P (call ν) ν plans n unroll f (.code (if b then x else y) :: K) t (env ν) s1 = some (s ν, t' ν, env' ν, st' ν) := fun ν hν => by
            obtain ⟨h1, h2⟩ := h ν hν
            simp only [topE] at h1
            rw [(hi ν hν).eval] at h1
            split at h1
            · rename_i b hb
              split at h1
              · cases h1
              · rename_i g s1 hg
                cases g with
                | true =>
                  obtain ⟨_, r2, r3, r4⟩ := guess_ok hg (topE_mono hc _ _ _ _ _ _ _ _ _ h1 h2)
                  exact ⟨b, s1, hb, r3, r4, by rw [r2]; exact h1⟩
                | false =>
                  obtain ⟨_, r2, r3, r4⟩ := guess_ok hg (topE_mono hc _ _ _ _ _ _ _ _ _ h1 h2)
                  exact ⟨b, s1, hb, r3, r4, by rw [r2]; exact h1⟩
            · cases h1
          obtain ⟨b, _, hb, _⟩ := key _ (Ag.some D)
          obtain ⟨g, hg⟩ := pick (D := D) (st (fun _ => 0)) (Q := fun ν s1 => s1.cells = (st ν).cells ∧ s1.shapes = (st ν).shapes ∧ topE S P (call ν) ν plans n unroll f (.code (if b then x else y) :: K) t (env ν) s1 = some (s ν, t' ν, env' ν, st' ν)) (fun ν hν => by
            obtain ⟨b', s1, h1, h2⟩ := key ν hν
            rw [hb] at h1
            cases h1
            exact ⟨s1, h2⟩)
          exact wp_cond hb (ih (.code (if b then x else y) :: K) t a w D env g s t' env' st' hB hf hi (hfam.of_cells fun ν hν => ⟨(hg ν hν).1, (hg ν hν).2.1⟩) (fun ν hν => ⟨(hg ν hν).2.2, (h ν hν).2⟩) hQ)
        | exit id =>
          have h0 := (h _ (Ag.some D)).1
          simp only [topE] at h0
          split at h0
          · cases h0
          · rename_i K' hu
            exact wp_exit (after_exit hu (ih K' t a w D env st s t' env' st' hB hf hi hfam (fun ν hν => ⟨by have := (h ν hν).1; simp only [topE, hu] at this; exact this, (h ν hν).2⟩) hQ))
        | ret => exact wp_ret (after_ret K (now .ret (fun ν hν => by have := (h ν hν).1; simpa only [topE] using this)))
        | region r ops draw =>
          refine piece 2 _ K (fun ν hν => ?_)
          have h1 := (h ν hν).1
          simp only [topE] at h1
          split at h1
          · rename_i t1 env1 st1 hco
            exact ⟨.normal, t1, env1, st1, hco, h1⟩
          · cases h1
        | loop b =>
          cases hu : isIn unroll (firstRegion b) with
          | false => exact now (.loop b K) (fun ν hν => by have := (h ν hν).1; simpa only [topE, hu] using this)
          | true =>
            refine piece 400 _ K (fun ν hν => ?_)
            have h1 := (h ν hν).1
            simp only [topE, hu] at h1
            split at h1
            · cases h1
            · rename_i e t1 env1 st1 hco
              refine ⟨e, t1, env1, st1, hco, ?_⟩
              cases e <;> exact h1
        | _ => have := (h _ (Ag.some D)).1; simp [topE] at this
end
end Go.Proofs.YthglajoihlaldaaDoor.Sy
