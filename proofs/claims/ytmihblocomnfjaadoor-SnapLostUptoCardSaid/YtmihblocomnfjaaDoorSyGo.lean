/- A walk that the kernel carries out: code, calls; what it says of a call of the program. -/
import Derived.Test.YtmihblocomnfjaaDoorSyPlan
set_option linter.unusedSimpArgs false
set_option linter.unusedVariables false
namespace Go.Proofs.YtmihblocomnfjaaDoor.Sy
open Go

def noSel : List Oper → Bool
  | [] => true
  | o :: r => (match o.op with | .select .. => false | _ => true) && noSel r
theorem noSel_ok {ops : Array Oper} (h : noSel ops.toList = true) : Region.noSelect ops = true := by
  unfold Region.noSelect
  rw [Array.all_eq_true_iff_forall_mem]
  intro o ho
  have : ∀ l : List Oper, noSel l = true → ∀ o ∈ l, (match o.op with | .select .. => false | _ => true) = true := fun l => by
    induction l with
    | nil => intro _ o h; cases h
    | cons x r ih =>
      intro h o hm
      simp only [noSel, Bool.and_eq_true] at h
      rcases List.mem_cons.1 hm with rfl | hm
      · exact h.1
      · exact ih h.2 o hm
  exact this _ h o (by simpa using ho)

inductive Ex where
  | normal
  | exit (id : Nat)
  | ret

def Ex.to : Ex → Exit
  | .normal => .normal
  | .exit id => .exit id
  | .ret => .ret

abbrev Plans := (Key → Nat) → CallF → Array Oper → Nat → Key → Env → St → Option (List Bool × Plan)
def tableAt (key : Key) : List (Key × List Bool × Plan) → Option (List Bool × Plan)
  | [] => none
  | (k, x) :: r => match keyEq k key with
    | true => some x
    | false => tableAt key r
/-- A table of plans. -/
def table (l : List (Key × List Bool × Plan)) : Plans := fun _ _ _ _ key _ st => tableAt (st.cells.length :: key) l
def Plans.Fixed (plans : Plans) : Prop := ∀ ν c o n key e s ν' c' e' s', s.cells.length = s'.cells.length → plans ν c o n key e s = plans ν' c' o n key e' s'
theorem table_fixed (l : List (Key × List Bool × Plan)) : (table l).Fixed := fun _ _ _ _ _ _ _ _ _ _ _ h => by unfold table; rw [h]

def envOf : List Value → Nat → Env
  | [], _ => []
  | v :: r, i => (i, v) :: envOf r (i + 1)

section
variable (S : Strat) (P : Program)

def codeE (call : CallF) (ν : Key → Nat) (plans : Plans) (n : Nat) (p : Key) : Nat → Code → Nat → Env → St → Option (Ex × Nat × Env × St)
  | 0, _, _, _, _ => none
  | f + 1, c, t, env, st => match c with
    | .skip => some (.normal, t, env, st)
    | .region _ ops draw => match draw with
      | false => match listE S P call ν ops n (t :: p) ops.toList 0 env st with
        | some (env', st') => some (.normal, t + 1, env', st')
        | none => none
      | true => match plans ν call ops n (t :: p) env st with
        | none => none
        | some (bits, pl) => match noSel ops.toList && planFast ops pl with
          | true => match drawnE S P call ν ops n (t :: p) (maskCells bits st.cells) st.shapes.bare pl env st with
            | some (env', st') => some (.normal, t + 1, env', { st' with log := (st.cells.length :: t :: p, bits, pl) :: st'.log })
            | none => none
          | false => none
    | .seq a b => match codeE call ν plans n p f a t env st with
      | none => none
      | some (e, t', env', st') => match e with
        | .normal => codeE call ν plans n p f b t' env' st'
        | .exit id => some (.exit id, t', env', st')
        | .ret => some (.ret, t', env', st')
    | .cond c a b => match evalE n env c with
      | .bool x => match st.guess S x with
        | none => none
        | some (g, st') => match g with
          | true => codeE call ν plans n p f a t env st'
          | false => codeE call ν plans n p f b t env st'
      | _ => none
    | .block id b => match codeE call ν plans n p f b t env st with
      | none => none
      | some (e, t', env', st') => match e with
        | .normal => some (.normal, t', env', st')
        | .exit id' => match Nat.beq id' id with
          | true => some (.normal, t', env', st')
          | false => some (.exit id', t', env', st')
        | .ret => some (.ret, t', env', st')
    | .loop b => match codeE call ν plans n p f b t env st with
      | none => none
      | some (e, t', env', st') => match e with
        | .normal => codeE call ν plans n p f (.loop b) t' env' st'
        | .exit id => some (.exit id, t', env', st')
        | .ret => some (.ret, t', env', st')
    | .exit id => some (.exit id, t, env, st)
    | .ret => some (.ret, t, env, st)
    | _ => none

def resE (fn : Func) (n : Nat) (env : Env) : Sem Value := do
  let vs ← fn.results.mapM fun
    | .tmp t => pure (evalE n env (.tmp t))
    | .cell a t => do loadVar t (← asAddr (evalE n env (.tmp a)))
  pure (if h : vs.size = 1 then vs[0] else .tuple vs)

/-- What is known of functions that the walk does not go into. -/
structure Abs where
  on : FuncId → Bool
  run : (Key → Nat) → CallF

/-- What may be let go behind a call. -/
abbrev Gc := Key → Value → St → Option (List Bool × List Bool)
def Gc.Fixed (gc : Gc) : Prop := ∀ k r s r' s', s.cells.length = s'.cells.length → gc k r s = gc k r' s'
def gcAt (key : Key) : List (Key × List Bool × List Bool) → Option (List Bool × List Bool)
  | [] => none
  | (k, x) :: r => match keyEq k key with
    | true => some x
    | false => gcAt key r
def gcTable (l : List (Key × List Bool × List Bool)) : Gc := fun key _ st => gcAt (st.cells.length :: key) l
theorem gc_fixed (l : List (Key × List Bool × List Bool)) : (gcTable l).Fixed := fun _ _ _ _ _ h => by unfold gcTable; rw [h]
def gcE (gc : Gc) (key : Key) (x : Option (Value × St)) : Option (Value × St) :=
  match x with
  | none => none
  | some (r, st) => match gc key r st with
    | none => some (r, st)
    | some (a, b) => some (r, { st.drop a b with glog := (st.cells.length :: key, a, b) :: st.glog })

def callE (plans : Plans) (gc : Gc) (A : Abs) : Nat → (Key → Nat) → CallF
  | 0, _, _, _, _, _ => none
  | d + 1, ν, key, f, args, st => match A.on f with
   | true => A.run ν key f args st
   | false => match P.funcs[f]? with
    | none => none
    | some fn => match fn.body with
      | none => none
      | some c => match Nat.ble args.size fn.ntmps with
        | false => none
        | true => match codeE S P (callE plans gc A d ν) ν plans fn.ntmps key 400 c 0 (envOf args.toList 0) st with
          | none => none
          | some (e, _, env', st') => match e with
            | .exit _ => none
            | .normal => gcE gc key (semR S P (resE fn fn.ntmps env') st')
            | .ret => gcE gc key (semR S P (resE fn fn.ntmps env') st')

variable {S P}

theorem codeE_mono {call : (Key → Nat) → CallF} (hc : CallOk P call) {ν : Key → Nat} {plans : Plans} {n : Nat} {p : Key} : ∀ (f : Nat) (c : Code) (t : Nat) (env : Env) (st : St) (e : Ex) (t' : Nat) (env' : Env) (st' : St),
    codeE S P (call ν) ν plans n p f c t env st = some (e, t', env', st') → st'.Ok → st.Ok := by
  intro f
  induction f with
  | zero => intro c t env st e t' env' st' h; simp [codeE] at h
  | succ f ih =>
    intro c t env st e t' env' st' h hk
    cases c with
    | skip => simp only [codeE, Option.some.injEq, Prod.mk.injEq] at h; obtain ⟨_, _, _, rfl⟩ := h; exact hk
    | exit id => simp only [codeE, Option.some.injEq, Prod.mk.injEq] at h; obtain ⟨_, _, _, rfl⟩ := h; exact hk
    | ret => simp only [codeE, Option.some.injEq, Prod.mk.injEq] at h; obtain ⟨_, _, _, rfl⟩ := h; exact hk
    | region id ops draw =>
      cases draw with
      | false =>
        simp only [codeE] at h
        split at h
        · rename_i env1 st1 hl
          simp only [Option.some.injEq, Prod.mk.injEq] at h
          obtain ⟨_, _, _, rfl⟩ := h
          exact listE_mono hc _ _ _ _ _ _ hl hk
        · cases h
      | true =>
        simp only [codeE] at h
        split at h
        · cases h
        · split at h
          · split at h
            · rename_i env1 st1 hl
              simp only [Option.some.injEq, Prod.mk.injEq] at h
              obtain ⟨_, _, _, rfl⟩ := h
              exact drawnE_mono hc _ _ _ _ _ hl ⟨hk.eqs, hk.conds⟩
            · cases h
          · cases h
    | seq a b =>
      simp only [codeE] at h
      split at h
      · cases h
      · rename_i e1 t1 env1 st1 ha
        split at h
        · exact ih _ _ _ _ _ _ _ _ ha (ih _ _ _ _ _ _ _ _ h hk)
        · simp only [Option.some.injEq, Prod.mk.injEq] at h; obtain ⟨_, _, _, rfl⟩ := h; exact ih _ _ _ _ _ _ _ _ ha hk
        · simp only [Option.some.injEq, Prod.mk.injEq] at h; obtain ⟨_, _, _, rfl⟩ := h; exact ih _ _ _ _ _ _ _ _ ha hk
    | cond c a b =>
      simp only [codeE] at h
      split at h
      · split at h
        · cases h
        · rename_i g s1 hg
          split at h
          · exact (guess_ok hg (ih _ _ _ _ _ _ _ _ h hk)).1
          · exact (guess_ok hg (ih _ _ _ _ _ _ _ _ h hk)).1
      · cases h
    | block id b =>
      simp only [codeE] at h
      split at h
      · cases h
      · rename_i e1 t1 env1 st1 ha
        refine ih _ _ _ _ _ _ _ _ ha ?_
        split at h
        · simp only [Option.some.injEq, Prod.mk.injEq] at h; obtain ⟨_, _, _, rfl⟩ := h; exact hk
        · split at h
          · simp only [Option.some.injEq, Prod.mk.injEq] at h; obtain ⟨_, _, _, rfl⟩ := h; exact hk
          · simp only [Option.some.injEq, Prod.mk.injEq] at h; obtain ⟨_, _, _, rfl⟩ := h; exact hk
        · simp only [Option.some.injEq, Prod.mk.injEq] at h; obtain ⟨_, _, _, rfl⟩ := h; exact hk
    | loop b =>
      simp only [codeE] at h
      split at h
      · cases h
      · rename_i e1 t1 env1 st1 ha
        split at h
        · exact ih _ _ _ _ _ _ _ _ ha (ih _ _ _ _ _ _ _ _ h hk)
        · simp only [Option.some.injEq, Prod.mk.injEq] at h; obtain ⟨_, _, _, rfl⟩ := h; exact ih _ _ _ _ _ _ _ _ ha hk
        · simp only [Option.some.injEq, Prod.mk.injEq] at h; obtain ⟨_, _, _, rfl⟩ := h; exact ih _ _ _ _ _ _ _ _ ha hk
    | _ => simp [codeE] at h

/-- What stands behind a piece of code. -/
structure Behind (C : Nat → Nat → Prop) (B : Nat) (n : Nat) (p : Key) (D : Dom) (w : World) (ex : (Key → Nat) → Ex) (t' : (Key → Nat) → Nat) (env' : (Key → Nat) → Env) (st' : (Key → Nat) → St) (e : Ex) (a' : Act) (w' : World) (t1 : Nat) (D' : Dom) : Prop where
  ext : Dom.Ext p D D'
  free : ∀ t2, t1 ≤ t2 → ∀ k, (t2 :: p) <:+ k → D' k = none
  ends : ∀ ν, Ag D' ν → ex ν = e ∧ t' ν = t1 ∧ EnvOk n (env' ν) a'
  fam : Fam C B D' w' st'
  sub : Sub (fun k i => C k i ∨ B ≤ k) w w'

theorem Sub.then {C : Nat → Nat → Prop} {B : Nat} {w w1 w2 : World} (h : Sub (fun k i => C k i ∨ B ≤ k) w w1) (h2 : Sub (fun k i => C k i ∨ B ≤ k) w1 w2) : Sub (fun k i => C k i ∨ B ≤ k) w w2 :=
  Sub.trans (B := w.heap.size) h (h2.mono fun k i hh => .inl hh) (Nat.le_refl _)

theorem code_sound2 (hL : LinkOk S P) {call : (Key → Nat) → CallF} (hc : CallOk P call) (hmix : P.follows .mixedOrders = true) {C : Nat → Nat → Prop} {B : Nat} {plans : Plans} (hplans : plans.Fixed) {n : Nat} {p : Key} :
    ∀ (f : Nat) (c : Code) (t : Nat) (a : Act) (w : World) (D : Dom) (env : (Key → Nat) → Env) (st : (Key → Nat) → St) (ex : (Key → Nat) → Ex) (t' : (Key → Nat) → Nat) (env' : (Key → Nat) → Env) (st' : (Key → Nat) → St) (Q : Exit → Act → World → Prop),
      B ≤ w.heap.size → (∀ t2, t ≤ t2 → ∀ k, (t2 :: p) <:+ k → D k = none) → (∀ ν, Ag D ν → EnvOk n (env ν) a) → Fam C B D w st →
      (∀ ν, Ag D ν → codeE S P (call ν) ν plans n p f c t (env ν) (st ν) = some (ex ν, t' ν, env' ν, st' ν) ∧ (st' ν).Ok) →
      (∀ e a' w' t1 D', Behind C B n p D w ex t' env' st' e a' w' t1 D' → Q e.to a' w') → c.wp P Q a w ∧ ∀ b, c = .loop b → Code.rounds P b Q f a w := by
  intro f
  induction f with
  | zero => intro c t a w D env st ex t' env' st' Q hB hf hi hfam h; have := (h _ (Ag.some D)).1; simp [codeE] at this
  | succ f ih0 =>
    have ih := fun c t a w D env st ex t' env' st' Q hB hf hi hfam h hQ => (ih0 c t a w D env st ex t' env' st' Q hB hf hi hfam h hQ).1
    intro c t a w D env st ex t' env' st' Q hB hf hi hfam h hQ
    have hrounds : ∀ b, c = .loop b → Code.rounds P b Q (f + 1) a w := by
      rintro b rfl
      obtain ⟨g, hg⟩ := pick (D := D) ((Ex.normal, t, env (fun _ => 0), st (fun _ => 0)) : Ex × Nat × Env × St) (Q := fun ν z => codeE S P (call ν) ν plans n p f b t (env ν) (st ν) = some (z.1, z.2.1, z.2.2.1, z.2.2.2) ∧ z.2.2.2.Ok ∧
          (match z.1 with
            | .normal => codeE S P (call ν) ν plans n p f (.loop b) z.2.1 z.2.2.1 z.2.2.2
            | .exit id => some (.exit id, z.2.1, z.2.2.1, z.2.2.2)
            | .ret => some (.ret, z.2.1, z.2.2.1, z.2.2.2)) = some (ex ν, t' ν, env' ν, st' ν)) (fun ν hν => by
        obtain ⟨h1, h2⟩ := h ν hν
        simp only [codeE] at h1
        split at h1
        · cases h1
        · rename_i e1 t1 env1 st1 hx
          refine ⟨(e1, t1, env1, st1), hx, ?_, h1⟩
          cases e1 with
          | normal => exact codeE_mono hc _ _ _ _ _ _ _ _ _ h1 h2
          | exit id => simp only [Option.some.injEq, Prod.mk.injEq] at h1; rw [h1.2.2.2]; exact h2
          | ret => simp only [Option.some.injEq, Prod.mk.injEq] at h1; rw [h1.2.2.2]; exact h2)
      rw [rounds_succ]
      refine ih b t a w D env st (fun ν => (g ν).1) (fun ν => (g ν).2.1) (fun ν => (g ν).2.2.1) (fun ν => (g ν).2.2.2) _ hB hf hi hfam (fun ν hν => ⟨(hg ν hν).1, (hg ν hν).2.1⟩) (fun e a' w' t1 D' hb => ?_)
      have hag : ∀ ν, Ag D' ν → Ag D ν := fun ν hν => hν.ext hb.ext
      cases e with
      | normal =>
        refine (ih0 (.loop b) t1 a' w' D' (fun ν => (g ν).2.2.1) (fun ν => (g ν).2.2.2) ex t' env' st' Q (Nat.le_trans hB hb.sub.size) hb.free (fun ν hν => (hb.ends ν hν).2.2) hb.fam (fun ν hν => ⟨?_, (h ν (hag ν hν)).2⟩) (fun e a2 w2 t2 D2 hb2 => hQ e a2 w2 t2 D2 ⟨hb.ext.trans hb2.ext, hb2.free, hb2.ends, hb2.fam, hb.sub.then hb2.sub⟩)).2 b rfl
        have g1 := (hg ν (hag ν hν)).2.2
        rw [(hb.ends ν hν).1] at g1
        rw [← (hb.ends ν hν).2.1]
        exact g1
      | exit id =>
        have g1 : ∀ ν, Ag D' ν → _ := fun ν hν => by
          have g1 := (hg ν (hag ν hν)).2.2
          rw [(hb.ends ν hν).1] at g1
          simp only [Option.some.injEq, Prod.mk.injEq] at g1
          exact g1
        exact hQ (.exit id) a' w' t1 D' ⟨hb.ext, hb.free, fun ν hν => ⟨(g1 ν hν).1.symm, (g1 ν hν).2.1 ▸ (hb.ends ν hν).2.1, (g1 ν hν).2.2.1 ▸ (hb.ends ν hν).2.2⟩, hb.fam.congr fun ν hν => (g1 ν hν).2.2.2.symm, hb.sub⟩
      | ret =>
        have g1 : ∀ ν, Ag D' ν → _ := fun ν hν => by
          have g1 := (hg ν (hag ν hν)).2.2
          rw [(hb.ends ν hν).1] at g1
          simp only [Option.some.injEq, Prod.mk.injEq] at g1
          exact g1
        exact hQ .ret a' w' t1 D' ⟨hb.ext, hb.free, fun ν hν => ⟨(g1 ν hν).1.symm, (g1 ν hν).2.1 ▸ (hb.ends ν hν).2.1, (g1 ν hν).2.2.1 ▸ (hb.ends ν hν).2.2⟩, hb.fam.congr fun ν hν => (g1 ν hν).2.2.2.symm, hb.sub⟩
    refine ⟨?_, hrounds⟩
    cases c with
    | skip =>
      refine wp_skip (hQ .normal a w t D ⟨Dom.Ext.refl _ _, hf, fun ν hν => ?_, hfam.congr fun ν hν => ?_, Sub.refl _ _⟩)
      all_goals have := (h ν hν).1; simp only [codeE, Option.some.injEq, Prod.mk.injEq] at this; obtain ⟨h1, h2, h3, h4⟩ := this
      · exact ⟨h1.symm, h2.symm, h3 ▸ hi ν hν⟩
      · exact h4.symm
    | exit id =>
      refine wp_exit (hQ (.exit id) a w t D ⟨Dom.Ext.refl _ _, hf, fun ν hν => ?_, hfam.congr fun ν hν => ?_, Sub.refl _ _⟩)
      all_goals have := (h ν hν).1; simp only [codeE, Option.some.injEq, Prod.mk.injEq] at this; obtain ⟨h1, h2, h3, h4⟩ := this
      · exact ⟨h1.symm, h2.symm, h3 ▸ hi ν hν⟩
      · exact h4.symm
    | ret =>
      refine wp_ret (hQ .ret a w t D ⟨Dom.Ext.refl _ _, hf, fun ν hν => ?_, hfam.congr fun ν hν => ?_, Sub.refl _ _⟩)
      all_goals have := (h ν hν).1; simp only [codeE, Option.some.injEq, Prod.mk.injEq] at this; obtain ⟨h1, h2, h3, h4⟩ := this
      · exact ⟨h1.symm, h2.symm, h3 ▸ hi ν hν⟩
      · exact h4.symm
    | region id ops draw =>
      have hfree : ∀ D', Dom.Ext (t :: p) D D' → ∀ t2, t + 1 ≤ t2 → ∀ k, (t2 :: p) <:+ k → D' k = none := fun D' hx t2 ht k hk => by
        rw [hx.new k (fun hh => by have := suffix_ne hk hh; omega)]
        exact hf t2 (by omega) k hk
      cases draw with
      | false =>
        obtain ⟨g, hg⟩ := pick (D := D) ((env (fun _ => 0), st (fun _ => 0)) : Env × St) (Q := fun ν y => listE S P (call ν) ν ops n (t :: p) ops.toList 0 (env ν) (st ν) = some (y.1, y.2) ∧ y.2.Ok ∧
            ex ν = .normal ∧ t' ν = t + 1 ∧ env' ν = y.1 ∧ st' ν = y.2) (fun ν hν => by
          obtain ⟨h1, h2⟩ := h ν hν
          simp only [codeE] at h1
          split at h1
          · rename_i env1 st1 hl
            simp only [Option.some.injEq, Prod.mk.injEq] at h1
            exact ⟨(env1, st1), hl, h1.2.2.2 ▸ h2, h1.1.symm, h1.2.1.symm, h1.2.2.1.symm, h1.2.2.2.symm⟩
          · cases h1)
        refine wp_region_list (list_sound hL (C := C) (n := n) (tp := t :: p) hc ops.toList 0 a w D env st (fun ν => (g ν).1) (fun ν => (g ν).2) hB (fun j _ k hk => hf t (Nat.le_refl _) k ((List.suffix_cons _ _).trans hk)) hi hfam
          (fun ν hν => ⟨(hg ν hν).1, (hg ν hν).2.1⟩) (fun a' w' D' hx hy hy' hz => ?_))
        refine hQ .normal a' w' (t + 1) D' ⟨hx.mono (List.suffix_cons _ _), hfree D' hx, fun ν hν => ?_, hy'.congr fun ν hν => (hg ν (hν.ext hx)).2.2.2.2.2, hz⟩
        obtain ⟨_, _, h3, h4, h5, _⟩ := hg ν (hν.ext hx)
        exact ⟨h3, h4, h5 ▸ hy ν hν⟩
      | true =>
        obtain ⟨bits, pl, hpl0, hok⟩ : ∃ bits pl, plans (fun k => (D k).getD 0) (call (fun k => (D k).getD 0)) ops n (t :: p) (env (fun k => (D k).getD 0)) (st (fun k => (D k).getD 0)) = some (bits, pl) ∧ (noSel ops.toList && planFast ops pl) = true := by
          have h1 := (h _ (Ag.some D)).1
          simp only [codeE] at h1
          split at h1
          · cases h1
          · rename_i bits pl hpl
            split at h1
            · rename_i hok; exact ⟨bits, pl, hpl, hok⟩
            · cases h1
        have hpl : ∀ ν, Ag D ν → plans ν (call ν) ops n (t :: p) (env ν) (st ν) = some (bits, pl) := fun ν hν => (hplans _ _ _ _ _ _ _ _ _ _ _ (by rw [(hfam.uni ν _ hν (Ag.some D)).1])).trans hpl0
        have hok' := hok
        simp only [Bool.and_eq_true] at hok'
        have hok1 := noSel_ok hok'.1
        have hok2 := planFast_ok hok'.2
        obtain ⟨m, hm⟩ : ∃ m : St, m = st (fun k => (D k).getD 0) := ⟨_, rfl⟩
        obtain ⟨g, hg⟩ := pick (D := D) ((env (fun _ => 0), st (fun _ => 0)) : Env × St) (Q := fun ν y => drawnE S P (call ν) ν ops n (t :: p) (maskCells bits m.cells) m.shapes.bare pl (env ν) (st ν) = some (y.1, y.2) ∧ y.2.Ok ∧
            ex ν = .normal ∧ t' ν = t + 1 ∧ env' ν = y.1 ∧ (st' ν).cells = y.2.cells ∧ (st' ν).shapes = y.2.shapes) (fun ν hν => by
          obtain ⟨h1, h2⟩ := h ν hν
          simp only [codeE, hpl ν hν, hok] at h1
          split at h1
          · rename_i env1 st1 hl
            simp only [Option.some.injEq, Prod.mk.injEq] at h1
            obtain ⟨u1, u2⟩ := hfam.uni ν _ hν (Ag.some D)
            rw [u1, u2, ← hm] at hl
            rw [← h1.2.2.2] at h2 ⊢
            exact ⟨(env1, st1), hl, ⟨h2.eqs, h2.conds⟩, h1.1.symm, h1.2.1.symm, h1.2.2.1.symm, rfl, rfl⟩
          · cases h1)
        have hR : ∀ a' w' D', Dom.Ext (t :: p) D D' → (∀ ν, Ag D' ν → EnvOk n (g ν).1 a') → Fam C B D' w' (fun ν => (g ν).2) → Sub (fun k i => C k i ∨ B ≤ k) w w' → Q .normal a' w' := fun a' w' D' hx hy hy' hz => by
          refine hQ .normal a' w' (t + 1) D' ⟨hx.mono (List.suffix_cons _ _), hfree D' hx, fun ν hν => ?_, hy'.of_cells fun ν hν => (hg ν (hν.ext hx)).2.2.2.2.2, hz⟩
          obtain ⟨_, _, h3, h4, h5, _⟩ := hg ν (hν.ext hx)
          exact ⟨h3, h4, h5 ▸ hy ν hν⟩
        have hmi : Inv C B w m := hm ▸ hfam.inv _ (Ag.some D)
        have hd : Sub (fun k i => C k i ∨ B ≤ k) w { w with drawn := w.drawn + 1 } := Sub.drawn _ _ _
        have hdi : ∀ s, Inv C B w s → Inv C B { w with drawn := w.drawn + 1 } s := fun s hs => ⟨hs.cell, hs.free, hs.dist, hs.shp, hs.lt, hs.slt, hs.own, hs.vec, hs.vsep, hs.vdist, hs.sfresh, hs.sdist, fun r hr => (hs.ro r hr).sub hd⟩
        have hw := (drawn_sound hL (C := C) (B := B) (n := n) (tp := t :: p) hc hok1 (m := { m with cells := maskCells bits m.cells, shapes := m.shapes.bare }) rfl pl).1 ops.size (Array.replicate ops.size false) a { w with drawn := w.drawn + 1 } D env st (fun ν => (g ν).1) (fun ν => (g ν).2)
          (fun a' w' => Q .normal a' w') hok2 hB (fun j _ k hk => hf t (Nat.le_refl _) k ((List.suffix_cons _ _).trans hk)) hi ⟨fun ν hν => hdi _ (hfam.inv ν hν), hfam.uni⟩ (hdi _ (hmi.mask bits))
          (fun ν hν => ⟨(hg ν hν).1, (hg ν hν).2.1⟩) (fun a' w' D' hx hy hy' hz => hR a' w' D' hx hy hy' (hd.then hz))
        refine Code.wp_mono (fun e a w hq => ?_) (wp_region_held hmix hw)
        cases e <;> first | exact hq | exact hq.elim
    | seq x y =>
      obtain ⟨g, hg⟩ := pick (D := D) ((Ex.normal, t, env (fun _ => 0), st (fun _ => 0)) : Ex × Nat × Env × St) (Q := fun ν z => codeE S P (call ν) ν plans n p f x t (env ν) (st ν) = some (z.1, z.2.1, z.2.2.1, z.2.2.2) ∧ z.2.2.2.Ok ∧
          (match z.1 with
            | .normal => codeE S P (call ν) ν plans n p f y z.2.1 z.2.2.1 z.2.2.2
            | .exit id => some (.exit id, z.2.1, z.2.2.1, z.2.2.2)
            | .ret => some (.ret, z.2.1, z.2.2.1, z.2.2.2)) = some (ex ν, t' ν, env' ν, st' ν)) (fun ν hν => by
        obtain ⟨h1, h2⟩ := h ν hν
        simp only [codeE] at h1
        split at h1
        · cases h1
        · rename_i e1 t1 env1 st1 hx
          refine ⟨(e1, t1, env1, st1), hx, ?_, h1⟩
          cases e1 with
          | normal => exact codeE_mono hc _ _ _ _ _ _ _ _ _ h1 h2
          | exit id => simp only [Option.some.injEq, Prod.mk.injEq] at h1; rw [h1.2.2.2]; exact h2
          | ret => simp only [Option.some.injEq, Prod.mk.injEq] at h1; rw [h1.2.2.2]; exact h2)
      refine wp_seq (ih x t a w D env st (fun ν => (g ν).1) (fun ν => (g ν).2.1) (fun ν => (g ν).2.2.1) (fun ν => (g ν).2.2.2) _ hB hf hi hfam (fun ν hν => ⟨(hg ν hν).1, (hg ν hν).2.1⟩) (fun e a' w' t1 D' hb => ?_))
      have hag : ∀ ν, Ag D' ν → Ag D ν := fun ν hν => hν.ext hb.ext
      cases e with
      | normal =>
        refine ih y t1 a' w' D' (fun ν => (g ν).2.2.1) (fun ν => (g ν).2.2.2) ex t' env' st' Q (Nat.le_trans hB hb.sub.size) hb.free (fun ν hν => (hb.ends ν hν).2.2) hb.fam (fun ν hν => ⟨?_, (h ν (hag ν hν)).2⟩) (fun e a2 w2 t2 D2 hb2 => hQ e a2 w2 t2 D2 ⟨hb.ext.trans hb2.ext, hb2.free, hb2.ends, hb2.fam, hb.sub.then hb2.sub⟩)
        have g1 := (hg ν (hag ν hν)).2.2
        rw [(hb.ends ν hν).1] at g1
        rw [← (hb.ends ν hν).2.1]
        exact g1
      | exit id =>
        have g1 : ∀ ν, Ag D' ν → _ := fun ν hν => by
          have g1 := (hg ν (hag ν hν)).2.2
          rw [(hb.ends ν hν).1] at g1
          simp only [Option.some.injEq, Prod.mk.injEq] at g1
          exact g1
        exact hQ (.exit id) a' w' t1 D' ⟨hb.ext, hb.free, fun ν hν => ⟨(g1 ν hν).1.symm, (g1 ν hν).2.1 ▸ (hb.ends ν hν).2.1, (g1 ν hν).2.2.1 ▸ (hb.ends ν hν).2.2⟩, hb.fam.congr fun ν hν => (g1 ν hν).2.2.2.symm, hb.sub⟩
      | ret =>
        have g1 : ∀ ν, Ag D' ν → _ := fun ν hν => by
          have g1 := (hg ν (hag ν hν)).2.2
          rw [(hb.ends ν hν).1] at g1
          simp only [Option.some.injEq, Prod.mk.injEq] at g1
          exact g1
        exact hQ .ret a' w' t1 D' ⟨hb.ext, hb.free, fun ν hν => ⟨(g1 ν hν).1.symm, (g1 ν hν).2.1 ▸ (hb.ends ν hν).2.1, (g1 ν hν).2.2.1 ▸ (hb.ends ν hν).2.2⟩, hb.fam.congr fun ν hν => (g1 ν hν).2.2.2.symm, hb.sub⟩
    | cond c x y =>
      have key : ∀ ν, Ag D ν → ∃ b s1, a.eval c = .bool b ∧ s1.cells = (st ν).cells ∧ s1.shapes = (st ν).shapes ∧ codeE S P (call ν) ν plans n p f (if b then x else y) t (env ν) s1 = some (ex ν, t' ν, env' ν, st' ν) := fun ν hν => by
        obtain ⟨h1, h2⟩ := h ν hν
        simp only [codeE] at h1
        rw [(hi ν hν).eval] at h1
        split at h1
        · rename_i b hb
          split at h1
          · cases h1
          · rename_i g s1 hg
            cases g with
            | true =>
              obtain ⟨_, r2, r3, r4⟩ := guess_ok hg (codeE_mono hc _ _ _ _ _ _ _ _ _ h1 h2)
              exact ⟨b, s1, hb, r3, r4, by rw [r2]; exact h1⟩
            | false =>
              obtain ⟨_, r2, r3, r4⟩ := guess_ok hg (codeE_mono hc _ _ _ _ _ _ _ _ _ h1 h2)
              exact ⟨b, s1, hb, r3, r4, by rw [r2]; exact h1⟩
        · cases h1
      obtain ⟨b, _, hb, _⟩ := key _ (Ag.some D)
      obtain ⟨g, hg⟩ := pick (D := D) (st (fun _ => 0)) (Q := fun ν s1 => s1.cells = (st ν).cells ∧ s1.shapes = (st ν).shapes ∧ codeE S P (call ν) ν plans n p f (if b then x else y) t (env ν) s1 = some (ex ν, t' ν, env' ν, st' ν)) (fun ν hν => by
        obtain ⟨b', s1, h1, h2⟩ := key ν hν
        rw [hb] at h1
        cases h1
        exact ⟨s1, h2⟩)
      exact wp_cond hb (ih _ t a w D env g ex t' env' st' Q hB hf hi (hfam.of_cells fun ν hν => ⟨(hg ν hν).1, (hg ν hν).2.1⟩) (fun ν hν => ⟨(hg ν hν).2.2, (h ν hν).2⟩) hQ)
    | block id b =>
      obtain ⟨g, hg⟩ := pick (D := D) ((Ex.normal, t, env (fun _ => 0), st (fun _ => 0)) : Ex × Nat × Env × St) (Q := fun ν z => codeE S P (call ν) ν plans n p f b t (env ν) (st ν) = some (z.1, z.2.1, z.2.2.1, z.2.2.2) ∧ z.2.2.2.Ok ∧
          ex ν = (match z.1 with
            | .normal => .normal
            | .exit id' => if id' = id then .normal else .exit id'
            | .ret => .ret) ∧ t' ν = z.2.1 ∧ env' ν = z.2.2.1 ∧ st' ν = z.2.2.2) (fun ν hν => by
        obtain ⟨h1, h2⟩ := h ν hν
        simp only [codeE] at h1
        split at h1
        · cases h1
        · rename_i e1 t1 env1 st1 hx
          refine ⟨(e1, t1, env1, st1), hx, ?_⟩
          cases e1 with
          | normal => simp only [Option.some.injEq, Prod.mk.injEq] at h1; obtain ⟨r1, r2, r3, r4⟩ := h1; exact ⟨r4 ▸ h2, r1.symm, r2.symm, r3.symm, r4.symm⟩
          | ret => simp only [Option.some.injEq, Prod.mk.injEq] at h1; obtain ⟨r1, r2, r3, r4⟩ := h1; exact ⟨r4 ▸ h2, r1.symm, r2.symm, r3.symm, r4.symm⟩
          | exit id' =>
            simp only at h1
            split at h1
            · rename_i hb; simp only [Nat.beq_eq] at hb; simp only [Option.some.injEq, Prod.mk.injEq] at h1; obtain ⟨r1, r2, r3, r4⟩ := h1; exact ⟨r4 ▸ h2, by simp only [hb, if_true]; exact r1.symm, r2.symm, r3.symm, r4.symm⟩
            · rename_i hb
              have hne : ¬ id' = id := fun hh => by subst hh; simp at hb
              simp only [Option.some.injEq, Prod.mk.injEq] at h1; obtain ⟨r1, r2, r3, r4⟩ := h1; exact ⟨r4 ▸ h2, by simp only [hne, if_false]; exact r1.symm, r2.symm, r3.symm, r4.symm⟩)
      refine wp_block (ih b t a w D env st (fun ν => (g ν).1) (fun ν => (g ν).2.1) (fun ν => (g ν).2.2.1) (fun ν => (g ν).2.2.2) _ hB hf hi hfam (fun ν hν => ⟨(hg ν hν).1, (hg ν hν).2.1⟩) (fun e a' w' t1 D' hb => ?_))
      have hag : ∀ ν, Ag D' ν → Ag D ν := fun ν hν => hν.ext hb.ext
      have fin : ∀ e', (∀ ν, Ag D' ν → ex ν = e') → Q e'.to a' w' := fun e' he => hQ e' a' w' t1 D' ⟨hb.ext, hb.free, fun ν hν => ⟨he ν hν, (hg ν (hag ν hν)).2.2.2.1.trans (hb.ends ν hν).2.1, (hg ν (hag ν hν)).2.2.2.2.1 ▸ (hb.ends ν hν).2.2⟩,
        hb.fam.congr fun ν hν => (hg ν (hag ν hν)).2.2.2.2.2, hb.sub⟩
      cases e with
      | normal => exact fin .normal fun ν hν => by rw [(hg ν (hag ν hν)).2.2.1, (hb.ends ν hν).1]
      | ret => exact fin .ret fun ν hν => by rw [(hg ν (hag ν hν)).2.2.1, (hb.ends ν hν).1]
      | exit id' =>
        show Exit.inBlock id Q (.exit id') a' w'
        by_cases hid : id' = id
        · simp only [Exit.inBlock, hid, if_true]
          exact fin .normal fun ν hν => by rw [(hg ν (hag ν hν)).2.2.1, (hb.ends ν hν).1]; simp [hid]
        · simp only [Exit.inBlock, hid, if_false]
          exact fin (.exit id') fun ν hν => by rw [(hg ν (hag ν hν)).2.2.1, (hb.ends ν hν).1]; simp [hid]
    | loop b => exact wp_loop_rounds (f + 1) (hrounds b rfl)
    | _ => have := (h _ (Ag.some D)).1; simp [codeE] at this

/-! ### Calls -/
theorem get_envOf : ∀ (l : List Value) (i t : Nat), get (envOf l i) t = if i ≤ t then (l[t - i]?).getD undef else undef
  | [], i, t => by simp [envOf, get]
  | v :: r, i, t => by
    simp only [envOf, get]
    split
    · rename_i h
      simp only [Nat.beq_eq] at h
      subst h
      simp
    · rename_i h
      have hne : i ≠ t := fun e => by subst e; simp at h
      rw [get_envOf r (i + 1) t]
      by_cases hle : i ≤ t
      · rw [if_pos (by omega), if_pos hle]
        have : t - i = (t - (i + 1)) + 1 := by omega
        rw [this, List.getElem?_cons_succ]
      · rw [if_neg (by omega), if_neg hle]

theorem envOk_start {args : Array Value} {n : Nat} (h : args.size ≤ n) : EnvOk n (envOf args.toList 0) { tmps := args ++ Array.replicate (n - args.size) undef, defers := [] } := by
  refine ⟨fun t ht => ?_, by simp; omega, rfl⟩
  rw [get_envOf]
  simp only [Nat.zero_le, if_true, Nat.sub_zero, Array.getD_eq_getD_getElem?, Array.getElem?_toList]
  by_cases hlt : t < args.size
  · rw [Array.getElem?_append_left hlt]
  · rw [Array.getElem?_append_right (by omega), Array.getElem?_eq_none (by omega : args.size ≤ t)]
    by_cases h2 : t - args.size < n - args.size
    · rw [Array.getElem?_replicate, if_pos h2]; rfl
    · rw [Array.getElem?_eq_none (by simp; omega)]

theorem resE_eq {fn : Func} {n : Nat} {env : Env} {a : Act} (h : EnvOk n env a) : resE fn n env = results fn a.tmps := by
  unfold resE results
  have e : ∀ t, evalE n env (.tmp t) = a.tmps.getD t undef := fun t => by rw [h.eval]; rfl
  simp only [e]
  rfl

def Abs.none : Abs := ⟨fun _ => false, fun _ _ _ _ _ => Option.none⟩
theorem Abs.none_ok : CallOk P Abs.none.run := ⟨fun ν key f args st r st' h => (by cases h), fun C B key f args w D st r st' hB hf hfam h => by have := (h _ (Ag.some D)).1; cases this⟩

/-- Behind a call: what was let go. -/
structure Gced (gc : Gc) (key : Key) (r : Value) (st st' : St) : Prop where
  ok : st'.Ok → st.Ok
  same : match gc key r st with
    | none => st'.cells = st.cells ∧ st'.shapes = st.shapes
    | some (a, b) => st'.cells = (st.drop a b).cells ∧ st'.shapes = (st.drop a b).shapes
theorem gcE_ok {gc : Gc} {key : Key} {x : Option (Value × St)} {r : Value} {st' : St} (h : gcE gc key x = some (r, st')) : ∃ st, x = some (r, st) ∧ Gced gc key r st st' := by
  unfold gcE at h
  split at h
  · cases h
  · split at h
    · rename_i r1 st1 hg
      simp only [Option.some.injEq, Prod.mk.injEq] at h
      obtain ⟨rfl, rfl⟩ := h
      exact ⟨_, rfl, id, by rw [hg]; exact ⟨rfl, rfl⟩⟩
    · rename_i r1 st1 a b hg
      simp only [Option.some.injEq, Prod.mk.injEq] at h
      obtain ⟨rfl, rfl⟩ := h
      exact ⟨_, rfl, fun hk => ⟨hk.eqs, hk.conds⟩, by rw [hg]; exact ⟨rfl, rfl⟩⟩
theorem Fam.drop {C : Nat → Nat → Prop} {B : Nat} {D : Dom} {w : World} {st : (Key → Nat) → St} (h : Fam C B D w st) (x y : List Bool) : Fam C B D w (fun ν => (st ν).drop x y) :=
  ⟨fun ν hν => (h.inv ν hν).drop x y, fun ν ν' hν hν' => by obtain ⟨u1, u2⟩ := h.uni ν ν' hν hν'; simp only [St.drop, u1, u2, and_self]⟩

theorem callE_ok (hL : LinkOk S P) (hmix : P.follows .mixedOrders = true) (plans : Plans) (hplans : plans.Fixed) (gc : Gc) (hgc : gc.Fixed) (A : Abs) (hA : CallOk P A.run) : ∀ d, CallOk P (fun ν => callE S P plans gc A d ν) := by
  intro d
  induction d with
  | zero => exact ⟨fun ν key f args st r st' h => by simp [callE] at h, fun C B key f args w D st r st' hB hf hfam h => by have := (h _ (Ag.some D)).1; simp [callE] at this⟩
  | succ d ih =>
    have parts : ∀ ν key f args st r st', A.on f = false → callE S P plans gc A (d + 1) ν key f args st = some (r, st') → ∃ fn c e t env1 st1, P.funcs[f]? = some fn ∧ fn.body = some c ∧ args.size ≤ fn.ntmps ∧
        codeE S P (callE S P plans gc A d ν) ν plans fn.ntmps key 400 c 0 (envOf args.toList 0) st = some (e, t, env1, st1) ∧ (e = .normal ∨ e = .ret) ∧ ∃ st2, semR S P (resE fn fn.ntmps env1) st1 = some (r, st2) ∧ Gced gc key r st2 st' := by
      intro ν key f args st r st' hon h
      simp only [callE, hon] at h
      split at h
      · cases h
      · rename_i fn hfn
        split at h
        · cases h
        · rename_i c hc
          split at h
          · cases h
          · rename_i hs
            split at h
            · cases h
            · rename_i e t env1 st1 hco
              refine ⟨fn, c, e, t, env1, st1, hfn, hc, Nat.le_of_ble_eq_true hs, hco, ?_⟩
              cases e with
              | exit id => cases h
              | normal => exact ⟨.inl rfl, gcE_ok h⟩
              | ret => exact ⟨.inr rfl, gcE_ok h⟩
    refine ⟨fun ν key f args st r st' h hk => ?_, fun C B key f args w D st r st' hB hf hfam h => ?_⟩
    · cases hon : A.on f with
      | true => simp only [callE, hon] at h; exact hA.mono _ _ _ _ _ _ _ h hk
      | false =>
      obtain ⟨fn, c, e, t, env1, st1, _, _, _, h4, _, st2, h6, h7⟩ := parts _ _ _ _ _ _ _ hon h
      exact codeE_mono ih _ _ _ _ _ _ _ _ _ h4 (semR_mono _ _ _ _ h6 (h7.ok hk))
    · cases hon : A.on f with
      | true => exact hA.sound C B key f args w D st r st' hB hf hfam (fun ν hν => by have := h ν hν; simp only [callE, hon] at this; exact this)
      | false =>
      obtain ⟨fn, c, _, _, _, _, hfn, hbody, hs, _⟩ := parts _ _ _ _ _ _ _ hon (h _ (Ag.some D)).1
      obtain ⟨g, hg⟩ := pick (D := D) ((Ex.normal, 0, [], st (fun _ => 0)) : Ex × Nat × Env × St) (Q := fun ν z => codeE S P (callE S P plans gc A d ν) ν plans fn.ntmps key 400 c 0 (envOf args.toList 0) (st ν) = some (z.1, z.2.1, z.2.2.1, z.2.2.2) ∧ z.2.2.2.Ok ∧
          (z.1 = .normal ∨ z.1 = .ret) ∧ ∃ st2, semR S P (resE fn fn.ntmps z.2.2.1) z.2.2.2 = some (r ν, st2) ∧ Gced gc key (r ν) st2 (st' ν)) (fun ν hν => by
        obtain ⟨fn', c', e, t, env1, st1, h1, h2, _, h4, h5, st2, h6, h7⟩ := parts _ _ _ _ _ _ _ hon (h ν hν).1
        rw [hfn] at h1
        cases h1
        rw [hbody] at h2
        cases h2
        exact ⟨(e, t, env1, st1), h4, semR_mono _ _ _ _ h6 (h7.ok (h ν hν).2), h5, st2, h6, h7⟩)
      refine calls_of_wp hfn hbody ((code_sound2 hL ih hmix hplans (C := C) (B := B) (n := fn.ntmps) (p := key) 400 c 0 _ w D (fun _ => envOf args.toList 0) st (fun ν => (g ν).1) (fun ν => (g ν).2.1) (fun ν => (g ν).2.2.1) (fun ν => (g ν).2.2.2) _ hB
        (fun t2 _ k hk => hf k ((List.suffix_cons _ _).trans hk)) (fun _ _ => envOk_start hs) hfam (fun ν hν => ⟨(hg ν hν).1, (hg ν hν).2.1⟩) (fun e a' w' t1 D' hb => ?_)).1)
      have hag : ∀ ν, Ag D' ν → Ag D ν := fun ν hν => hν.ext hb.ext
      have hrun : ∀ ν, Ag D' ν → (results fn a'.tmps).run P w' = .ok (r ν) w' ∧ (match gc key (.bool false) (g ν).2.2.2 with
          | none => (st' ν).cells = (g ν).2.2.2.cells ∧ (st' ν).shapes = (g ν).2.2.2.shapes
          | some (x, y) => (st' ν).cells = ((g ν).2.2.2.drop x y).cells ∧ (st' ν).shapes = ((g ν).2.2.2.drop x y).shapes) := fun ν hν => by
        obtain ⟨_, _, _, st2, h4, h5⟩ := hg ν (hag ν hν)
        rw [resE_eq (hb.ends ν hν).2.2] at h4
        obtain ⟨r1, r2, r3⟩ := semR_sound _ _ _ _ (hb.fam.inv ν hν) h4 (h5.ok (h ν (hag ν hν)).2)
        refine ⟨r1, ?_⟩
        have h6 := h5.same
        rw [hgc key (r ν) st2 (.bool false) (g ν).2.2.2 (by rw [r2])] at h6
        cases hx : gc key (.bool false) (g ν).2.2.2 with
        | none =>
          rw [hx] at h6
          exact ⟨h6.1.trans r2, h6.2.trans r3⟩
        | some q =>
          obtain ⟨x, y⟩ := q
          rw [hx] at h6
          simp only [St.drop] at h6 ⊢
          rw [r2, r3] at h6
          exact h6
      have hd : a'.defers = [] := (hb.ends _ (Ag.some D')).2.2.defers
      have hfin : ∃ v, (results fn a'.tmps).run P w' = .ok v w' ∧ ∃ v' D'', (Ending.returned v = .returned v') ∧ Dom.Ext key D D'' ∧ (∀ ν, Ag D'' ν → r ν = v') ∧ Fam C B D'' w' st' ∧ Sub (fun k i => C k i ∨ B ≤ k) w w' := by
        have h0 := (hrun _ (Ag.some D')).1
        refine ⟨_, h0, _, D', rfl, hb.ext, fun ν hν => ?_, ?_, hb.sub⟩
        · have := (hrun ν hν).1
          rw [h0] at this
          simpa using this.symm
        · cases hx : gc key (.bool false) (g (fun k => (D' k).getD 0)).2.2.2 with
          | none =>
            refine hb.fam.of_cells fun ν hν => ?_
            have h2 := (hrun ν hν).2
            rw [hgc key (.bool false) (g ν).2.2.2 (.bool false) (g (fun k => (D' k).getD 0)).2.2.2 (by rw [(hb.fam.uni ν _ hν (Ag.some D')).1]), hx] at h2
            exact h2
          | some q =>
            obtain ⟨x, y⟩ := q
            refine (hb.fam.drop x y).of_cells fun ν hν => ?_
            have h2 := (hrun ν hν).2
            rw [hgc key (.bool false) (g ν).2.2.2 (.bool false) (g (fun k => (D' k).getD 0)).2.2.2 (by rw [(hb.fam.uni ν _ hν (Ag.some D')).1]), hx] at h2
            exact h2
      cases e with
      | normal => exact ⟨hd, hfin⟩
      | ret => exact ⟨hd, hfin⟩
      | exit id =>
        have h1 := (hb.ends _ (Ag.some D')).1
        have h2 := (hg _ (hag _ (Ag.some D'))).2.2.1
        rw [h1] at h2
        rcases h2 with h2 | h2 <;> cases h2

/-- Which cells were known at the start. -/
def known (cells : List Cell) (k i : Nat) : Prop := ∃ c ∈ cells, c.b = k ∧ c.o = i

end
end Go.Proofs.YtmihblocomnfjaaDoor.Sy
