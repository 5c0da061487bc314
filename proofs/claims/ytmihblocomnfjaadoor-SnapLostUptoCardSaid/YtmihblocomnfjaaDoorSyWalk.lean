/- A walk that the kernel carries out: what it says of a call, and of a function's own code from cut to cut. -/
import Derived.Test.YtmihblocomnfjaaDoorSyTop
import Derived.Deep.LoopGhost
set_option linter.unusedSimpArgs false
set_option linter.unusedVariables false
namespace Go.Proofs.YtmihblocomnfjaaDoor.Sy
open Go

/-- The notes of a walk: its ways, its regions' orders, its slices, the new blocks to be kept in sight, the slices' types to be made at any length, the loops to be gone through round by round. -/
structure Notes where
  tr : List Nat
  tb : List (Key × List Bool × Plan) := []
  todo : List (Key × Nat) := []
  keep : List Key := []
  big : List Nat := []
  unroll : List Nat := []
  gcs : List (Key × List Bool × List Bool) := []

def bigOf (l : List Nat) (t : TypeId) : Bool := l.any (fun j => Nat.beq t j)
/-- A program, with what the walks ask of it once. -/
structure Host (P : Program) where
  ext : List (FuncId × (Array Value → Sem Value))
  cas : List FuncId
  A : Strat → Abs
  mix : P.follows .mixedOrders = true
  extOk : ∀ x ∈ ext, ∃ fn, P.funcs[x.1]? = some fn ∧ (fn.name == "runtime.NumGoroutine") = false ∧ fn.body = none ∧ Extern.findNext fn = none ∧ Extern.find fn = some x.2
  casOk : ∀ f ∈ cas, ∃ fn, P.funcs[f]? = some fn ∧ (fn.name == "runtime.NumGoroutine") = false ∧ fn.body = none ∧ Extern.findNext fn = none ∧ Extern.find fn = some (Extern.Atomic.casT (.int .u64))
  name : ∀ (f : FuncId) fn, P.funcs[f]? = some fn → (fn.name == "runtime.NumGoroutine") = false
  absOk : ∀ S, CallOk P (A S).run

def Notes.S (nt : Notes) (ext : List (FuncId × (Array Value → Sem Value))) (cas : List FuncId) : Strat := followB ext cas (bigOf nt.big)
theorem Host.link {P : Program} (H : Host P) (nt : Notes) : LinkOk (nt.S H.ext H.cas) P := ⟨H.extOk, H.casOk, H.name⟩

structure Case where
  f : FuncId
  args : Array Value
  mem : Mem := {}

def Case.run {P : Program} (H : Host P) (c : Case) (nt : Notes) (ν : Key → Nat) : Option ((Value × Left) × List (Value × Value)) :=
  match callE (nt.S H.ext H.cas) P (table nt.tb) (gcTable nt.gcs) (H.A (nt.S H.ext H.cas)) 40 ν [] c.f c.args (c.mem.start nt.todo nt.tr) with
  | none => none
  | some (r, st) => match c.mem.fin nt.keep st with
    | none => none
    | some (o, eqs) => some ((r, o), eqs)

abbrev lefts {α : Type} (x : (α × List (Value × Value))) : List Value := x.2.map Prod.fst
abbrev rights {α : Type} (x : (α × List (Value × Value))) : List Value := x.2.map Prod.snd

theorem sub_old {m : Mem} {w w' : World} (h : Sub (fun k i => m.C k i ∨ w.heap.size ≤ k) w w') : Sub m.C w w' := by
  refine ⟨h.os, h.tape, h.output, h.size, fun k hk o ho => ?_, h.fresh⟩
  have a := h.block k hk o ho
  cases o with
  | cells c t f => obtain ⟨c1, e1, s1, r1⟩ := a; exact ⟨c1, e1, s1, fun i hi => r1 i (fun hc => by rcases hc with hc | hc; exact hi hc; omega)⟩
  | _ => exact a

theorem fin_ok {m : Mem} {keep : List Key} {st : St} {o : Left} {eqs : List (Value × Value)} (h : m.fin keep st = some (o, eqs)) (he : ∀ p ∈ eqs, p.1 = p.2) (hc : ∀ p ∈ o.conds, p.1 = p.2) : st.Ok := by
  unfold Mem.fin at h
  split at h
  · cases h
  · split at h
    · cases h
    · split at h
      · cases h
      · simp only [Option.some.injEq, Prod.mk.injEq] at h
        obtain ⟨rfl, rfl⟩ := h
        exact ⟨fun p hp => he p (by simp [hp]), hc⟩

/-- **A call, out of the kernel's walk.** -/
theorem Case.calls {P : Program} (H : Host P) (c : Case) (nt : Notes) {o : (Key → Nat) → Value × Left}
    (h1 : ∀ ν, (c.run H nt ν).map Prod.fst = some (o ν)) (h2 : ∀ ν, (c.run H nt ν).map lefts = (c.run H nt ν).map rights) (hc : ∀ ν, ∀ p ∈ (o ν).2.conds, p.1 = p.2)
    {w : World} (hw : c.mem.Met w) : Calls P c.f c.args w fun e w' => ∃ ν, e = .returned (o ν).1 ∧ c.mem.Post w (o ν).2 w' := by
  have key : ∀ ν, ∃ r st eqs, callE (nt.S H.ext H.cas) P (table nt.tb) (gcTable nt.gcs) (H.A (nt.S H.ext H.cas)) 40 ν [] c.f c.args (c.mem.start nt.todo nt.tr) = some (r, st) ∧ c.mem.fin nt.keep st = some ((o ν).2, eqs) ∧ r = (o ν).1 ∧ (∀ p ∈ eqs, p.1 = p.2) := fun ν => by
    have g1 := h1 ν
    have g2 := h2 ν
    unfold Case.run at g1 g2
    split at g1
    · cases g1
    · rename_i r st hr
      rw [hr] at g2
      simp only at g2
      split at g1
      · cases g1
      · rename_i l eqs hb
        rw [hb] at g2
        simp only [Option.map_some, Option.some.injEq] at g2 g1
        exact ⟨r, st, eqs, hr, by rw [← g1]; exact hb, by rw [← g1], of_map_eq g2⟩
  obtain ⟨f, hf⟩ : ∃ f : (Key → Nat) → Value × St, ∀ ν, callE (nt.S H.ext H.cas) P (table nt.tb) (gcTable nt.gcs) (H.A (nt.S H.ext H.cas)) 40 ν [] c.f c.args (c.mem.start nt.todo nt.tr) = some (f ν) ∧ ∃ eqs, c.mem.fin nt.keep (f ν).2 = some ((o ν).2, eqs) ∧ (f ν).1 = (o ν).1 ∧ ∀ p ∈ eqs, p.1 = p.2 :=
    Classical.axiomOfChoice (r := fun ν (x : Value × St) => callE (nt.S H.ext H.cas) P (table nt.tb) (gcTable nt.gcs) (H.A (nt.S H.ext H.cas)) 40 ν [] c.f c.args (c.mem.start nt.todo nt.tr) = some x ∧ ∃ eqs, c.mem.fin nt.keep x.2 = some ((o ν).2, eqs) ∧ x.1 = (o ν).1 ∧ ∀ p ∈ eqs, p.1 = p.2)
      (fun ν => by obtain ⟨r, st, eqs, h⟩ := key ν; exact ⟨(r, st), h.1, eqs, h.2⟩)
  have hok : ∀ ν, (f ν).2.Ok := fun ν => by
    obtain ⟨_, eqs, h3, h4, h5⟩ := hf ν
    exact fin_ok h3 h5 (hc ν)
  refine ((callE_ok (H.link nt) H.mix (table nt.tb) (table_fixed nt.tb) (gcTable nt.gcs) (gc_fixed nt.gcs) (H.A (nt.S H.ext H.cas)) (H.absOk _) 40).sound c.mem.C w.heap.size [] c.f c.args w (fun _ => none) (fun _ => c.mem.start nt.todo nt.tr) (fun ν => (f ν).1) (fun ν => (f ν).2) (Nat.le_refl _) (fun _ _ => rfl)
    ⟨fun _ _ => hw.inv _ _, fun _ _ _ _ => ⟨rfl, rfl⟩⟩ (fun ν _ => ⟨(hf ν).1, hok ν⟩)).mono ?_
  rintro e w' ⟨v, D', rfl, _, h3, h4, h5⟩
  obtain ⟨_, eqs, h6, h7, h8⟩ := hf (fun k => (D' k).getD 0)
  exact ⟨_, by rw [← h3 _ (Ag.some D'), h7], Mem.fin_sound hw h6 h8 (hc _) (h4.inv _ (Ag.some D')) (sub_old h5)⟩

def junkE (j : Nat → Value) : Nat → Env
  | 0 => []
  | n + 1 => (n, j n) :: junkE j n

/-- What is known of a frame. -/
structure Fr (n : Nat) (l : List (Nat × Value)) (a : Act) : Prop where
  size : a.tmps.size = n
  defers : a.defers = []
  vals : ∀ x ∈ l, a.tmps.getD x.1 undef = x.2

theorem get_junk (j : Nat → Value) : ∀ {n t : Nat}, t < n → get (junkE j n) t = j t
  | n + 1, t, h => by
    simp only [junkE, get]
    split
    · rename_i hb; rw [Nat.eq_of_beq_eq_true hb]
    · rename_i hb
      have : n ≠ t := fun e => by subst e; simp at hb
      exact get_junk j (by omega)

theorem get_append {T : Array Value} {e : Env} {t : Nat} (he : get e t = T.getD t undef) : ∀ {l : List (Nat × Value)}, (∀ x ∈ l, T.getD x.1 undef = x.2) → get (l ++ e) t = T.getD t undef
  | [], _ => he
  | x :: r, h => by
    simp only [List.cons_append, get]
    split
    · rename_i hb
      rw [← h x (List.mem_cons_self ..), Nat.eq_of_beq_eq_true hb]
    · exact get_append he (fun y hy => h y (List.mem_cons_of_mem _ hy))

theorem Fr.env {n : Nat} {l : List (Nat × Value)} {a : Act} (h : Fr n l a) : EnvOk n (l ++ junkE (fun t => a.tmps.getD t undef) n) a :=
  ⟨fun _ ht => (get_append (get_junk _ ht) h.vals).symm, h.size, h.defers⟩

structure Seg where
  items : List Item
  known : List (Nat × Value)
  mem : Mem := {}
  live : List Nat := []
  cuts : List FuncId := []

inductive Fin where
  | ret (v : Value)
  | loop (b : Code) (K : List Item)
  | again (i : Nat)
  | reg (K : List Item)
  | call (f : FuncId) (args : Array Value) (dst : Option Tmp) (ops : Array Oper) (rest : List Oper) (K : List Item)

def lives (n : Nat) (env : Env) : List Nat → List (Nat × Value)
  | [] => []
  | t :: r => (t, evalE n env (.tmp t)) :: lives n env r

def Seg.run {P : Program} (H : Host P) (fn : Func) (s : Seg) (nt : Notes) (ν : Key → Nat) (j : Nat → Value) : Option ((Fin × List (Nat × Value) × Left) × List (Value × Value)) :=
  match topE (nt.S H.ext H.cas) P (callE (nt.S H.ext H.cas) P (table nt.tb) (gcTable nt.gcs) (H.A (nt.S H.ext H.cas)) 40 ν) ν (table nt.tb) fn.ntmps nt.unroll s.cuts 400 s.items 0 (s.known ++ junkE j fn.ntmps) (s.mem.start nt.todo nt.tr) with
  | none => none
  | some (stop, _, env, st) => match stop with
    | .loop b K => match s.mem.fin nt.keep st with
      | none => none
      | some (o, eqs) => some ((.loop b K, lives fn.ntmps env s.live, o), eqs)
    | .again i => match s.mem.fin nt.keep st with
      | none => none
      | some (o, eqs) => some ((.again i, lives fn.ntmps env s.live, o), eqs)
    | .reg K => match s.mem.fin nt.keep st with
      | none => none
      | some (o, eqs) => some ((.reg K, lives fn.ntmps env s.live, o), eqs)
    | .call f args dst ops rest K => match s.mem.fin nt.keep st with
      | none => none
      | some (o, eqs) => some ((.call f args dst ops rest K, lives fn.ntmps env s.live, o), eqs)
    | _ => match semR (nt.S H.ext H.cas) P (resE fn fn.ntmps env) st with
      | none => none
      | some (v, st') => match s.mem.fin nt.keep st' with
        | none => none
        | some (o, eqs) => some ((.ret v, [], o), eqs)

theorem mem_lives {n : Nat} {env : Env} {a : Act} (he : EnvOk n env a) : ∀ {l : List Nat} {x : Nat × Value}, x ∈ lives n env l → a.tmps.getD x.1 undef = x.2
  | t :: r, x, h => by
    rcases List.mem_cons.1 h with rfl | h
    · simp only [he.eval]; rfl
    · exact mem_lives he h

/-- What is owed at a cut. -/
def Owed (P : Program) (fn : Func) (X : Nat → Act → World → Prop) (R : Ending → World → Prop) : Fin → Act → World → Prop
  | .ret v, _, w => R (.returned v) w
  | .loop b K, a, w => (Code.loop b).wp P (after P X (bodyPost P fn R) K) a w
  | .again i, a, w => X i a w
  | .reg K, a, w => after P X (bodyPost P fn R) K .normal a w
  | .call f args dst ops rest K, a, w => Calls P f args w fun e w' => ∃ v, e = .returned v ∧ after P X (bodyPost P fn R) (.ops ops rest :: K) .normal (a.put dst v) w'

/-- **A function's own code from cut to cut, out of the kernel's walk.** -/
theorem Seg.wp {P : Program} (H : Host P) (fn : Func) (s : Seg) (nt : Notes) {o : (Key → Nat) → (Nat → Value) → Fin × List (Nat × Value) × Left}
    (h1 : ∀ ν j, (s.run H fn nt ν j).map Prod.fst = some (o ν j)) (h2 : ∀ ν j, (s.run H fn nt ν j).map lefts = (s.run H fn nt ν j).map rights) (hc : ∀ ν j, ∀ p ∈ (o ν j).2.2.conds, p.1 = p.2)
    {X : Nat → Act → World → Prop} {R : Ending → World → Prop} {a : Act} {w : World} (ha : Fr fn.ntmps s.known a) (hw : s.mem.Met w)
    (hQ : ∀ ν j a' w', Fr fn.ntmps (o ν j).2.1 a' → s.mem.Post w (o ν j).2.2 w' → Owed P fn X R (o ν j).1 a' w') : after P X (bodyPost P fn R) s.items .normal a w := by
  obtain ⟨j, hj⟩ : ∃ j : Nat → Value, j = fun t => a.tmps.getD t undef := ⟨_, rfl⟩
  -- what the walk gave
  have key : ∀ ν, ∃ z : Stop × Nat × Env × St, topE (nt.S H.ext H.cas) P (callE (nt.S H.ext H.cas) P (table nt.tb) (gcTable nt.gcs) (H.A (nt.S H.ext H.cas)) 40 ν) ν (table nt.tb) fn.ntmps nt.unroll s.cuts 400 s.items 0 (s.known ++ junkE j fn.ntmps) (s.mem.start nt.todo nt.tr) = some z ∧ z.2.2.2.Ok ∧
      ∃ st' eqs, s.mem.fin nt.keep st' = some ((o ν j).2.2, eqs) ∧ (∀ p ∈ eqs, p.1 = p.2) ∧ (match z.1 with
        | .loop b K => (o ν j).1 = .loop b K ∧ (o ν j).2.1 = lives fn.ntmps z.2.2.1 s.live ∧ st' = z.2.2.2
        | .again i => (o ν j).1 = .again i ∧ (o ν j).2.1 = lives fn.ntmps z.2.2.1 s.live ∧ st' = z.2.2.2
        | .reg K => (o ν j).1 = .reg K ∧ (o ν j).2.1 = lives fn.ntmps z.2.2.1 s.live ∧ st' = z.2.2.2
        | .call f args dst ops rest K => (o ν j).1 = .call f args dst ops rest K ∧ (o ν j).2.1 = lives fn.ntmps z.2.2.1 s.live ∧ st' = z.2.2.2
        | _ => ∃ v, semR (nt.S H.ext H.cas) P (resE fn fn.ntmps z.2.2.1) z.2.2.2 = some (v, st') ∧ st'.Ok ∧ (o ν j).1 = .ret v ∧ (o ν j).2.1 = []) := fun ν => by
    have g1 := h1 ν j
    have g2 := h2 ν j
    have g3 := hc ν j
    unfold Seg.run at g1 g2
    split at g1
    · cases g1
    · rename_i stop t env st hr
      rw [hr] at g2
      simp only at g2
      refine ⟨_, hr, ?_⟩
      cases stop with
      | loop b K =>
        simp only at g1 g2 ⊢
        split at g1
        · cases g1
        · rename_i l eqs hb
          rw [hb] at g2
          simp only [Option.map_some, Option.some.injEq] at g2 g1
          rw [← g1] at g3 ⊢
          exact ⟨fin_ok hb (of_map_eq g2) g3, _, _, hb, of_map_eq g2, rfl, rfl, rfl⟩
      | again i =>
        simp only at g1 g2 ⊢
        split at g1
        · cases g1
        · rename_i l eqs hb
          rw [hb] at g2
          simp only [Option.map_some, Option.some.injEq] at g2 g1
          rw [← g1] at g3 ⊢
          exact ⟨fin_ok hb (of_map_eq g2) g3, _, _, hb, of_map_eq g2, rfl, rfl, rfl⟩
      | reg K =>
        simp only at g1 g2 ⊢
        split at g1
        · cases g1
        · rename_i l eqs hb
          rw [hb] at g2
          simp only [Option.map_some, Option.some.injEq] at g2 g1
          rw [← g1] at g3 ⊢
          exact ⟨fin_ok hb (of_map_eq g2) g3, _, _, hb, of_map_eq g2, rfl, rfl, rfl⟩
      | call f args dst ops rest K =>
        simp only at g1 g2 ⊢
        split at g1
        · cases g1
        · rename_i l eqs hb
          rw [hb] at g2
          simp only [Option.map_some, Option.some.injEq] at g2 g1
          rw [← g1] at g3 ⊢
          exact ⟨fin_ok hb (of_map_eq g2) g3, _, _, hb, of_map_eq g2, rfl, rfl, rfl⟩
      | fin =>
        simp only at g1 g2 ⊢
        split at g1
        · cases g1
        · rename_i v st' hv
          rw [hv] at g2
          simp only at g2
          split at g1
          · cases g1
          · rename_i l eqs hb
            rw [hb] at g2
            simp only [Option.map_some, Option.some.injEq] at g2 g1
            rw [← g1] at g3 ⊢
            have hk := fin_ok hb (of_map_eq g2) g3
            exact ⟨semR_mono _ _ _ _ hv hk, _, _, hb, of_map_eq g2, v, hv, hk, rfl, rfl⟩
      | ret =>
        simp only at g1 g2 ⊢
        split at g1
        · cases g1
        · rename_i v st' hv
          rw [hv] at g2
          simp only at g2
          split at g1
          · cases g1
          · rename_i l eqs hb
            rw [hb] at g2
            simp only [Option.map_some, Option.some.injEq] at g2 g1
            rw [← g1] at g3 ⊢
            have hk := fin_ok hb (of_map_eq g2) g3
            exact ⟨semR_mono _ _ _ _ hv hk, _, _, hb, of_map_eq g2, v, hv, hk, rfl, rfl⟩
  obtain ⟨z, hz⟩ := Classical.axiomOfChoice key
  refine top_sound (H.link nt) (callE_ok (H.link nt) H.mix (table nt.tb) (table_fixed nt.tb) (gcTable nt.gcs) (gc_fixed nt.gcs) (H.A (nt.S H.ext H.cas)) (H.absOk _) 40) H.mix (C := s.mem.C) (B := w.heap.size) (table_fixed nt.tb) (n := fn.ntmps) (unroll := nt.unroll) (cuts := s.cuts) (X := X) (Q := bodyPost P fn R) 400 s.items 0 a w (fun _ => none) (fun _ => s.known ++ junkE j fn.ntmps)
    (fun _ => s.mem.start nt.todo nt.tr) (fun ν => (z ν).1) (fun ν => (z ν).2.1) (fun ν => (z ν).2.2.1) (fun ν => (z ν).2.2.2) (Nat.le_refl _) (fun _ _ _ _ => rfl) (fun _ _ => by rw [hj]; exact ha.env) ⟨fun _ _ => hw.inv _ _, fun _ _ _ _ => ⟨rfl, rfl⟩⟩ (fun ν _ => ⟨(hz ν).1, (hz ν).2.1⟩) ?_
  intro s0 a' w' D' hat
  obtain ⟨ν, hν⟩ : ∃ ν : Key → Nat, ν = fun k => (D' k).getD 0 := ⟨_, rfl⟩
  have hA' : Ag D' ν := hν ▸ Ag.some D'
  obtain ⟨e1, e2⟩ := hat.ends ν hA'
  obtain ⟨_, _, st', eqs, h6, h7, h8⟩ := hz ν
  rw [e1] at h8
  have hI := hat.fam.inv ν hA'
  have hS := sub_old hat.sub
  cases s0 with
  | loop b K =>
    obtain ⟨q1, q2, rfl⟩ := h8
    have := hQ ν j a' w' ⟨e2.size, e2.defers, fun x hx => mem_lives e2 (q2 ▸ hx)⟩ (Mem.fin_sound hw h6 h7 (hc ν j) hI hS)
    rw [q1] at this
    exact this
  | again i =>
    obtain ⟨q1, q2, rfl⟩ := h8
    have := hQ ν j a' w' ⟨e2.size, e2.defers, fun x hx => mem_lives e2 (q2 ▸ hx)⟩ (Mem.fin_sound hw h6 h7 (hc ν j) hI hS)
    rw [q1] at this
    exact this
  | reg K =>
    obtain ⟨q1, q2, rfl⟩ := h8
    have := hQ ν j a' w' ⟨e2.size, e2.defers, fun x hx => mem_lives e2 (q2 ▸ hx)⟩ (Mem.fin_sound hw h6 h7 (hc ν j) hI hS)
    rw [q1] at this
    exact this
  | call f args dst ops rest K =>
    obtain ⟨q1, q2, rfl⟩ := h8
    have := hQ ν j a' w' ⟨e2.size, e2.defers, fun x hx => mem_lives e2 (q2 ▸ hx)⟩ (Mem.fin_sound hw h6 h7 (hc ν j) hI hS)
    rw [q1] at this
    exact this
  | fin =>
    obtain ⟨v, q1, q2, q3, q4⟩ := h8
    rw [resE_eq e2] at q1
    obtain ⟨r1, r2, r3⟩ := semR_sound _ _ _ _ hI q1 q2
    have := hQ ν j a' w' ⟨e2.size, e2.defers, fun x hx => by rw [q4] at hx; cases hx⟩ (Mem.fin_sound hw h6 h7 (hc ν j) (hI.of_cells r2 r3) hS)
    rw [q3] at this
    exact ⟨e2.defers, v, r1, this⟩
  | ret =>
    obtain ⟨v, q1, q2, q3, q4⟩ := h8
    rw [resE_eq e2] at q1
    obtain ⟨r1, r2, r3⟩ := semR_sound _ _ _ _ hI q1 q2
    have := hQ ν j a' w' ⟨e2.size, e2.defers, fun x hx => by rw [q4] at hx; cases hx⟩ (Mem.fin_sound hw h6 h7 (hc ν j) (hI.of_cells r2 r3) hS)
    rw [q3] at this
    exact ⟨e2.defers, v, r1, this⟩

/-- A function's own code: its call. -/
theorem calls_after {P : Program} {f : FuncId} {fn : Func} {c : Code} {args : Array Value} {w : World} {R : Ending → World → Prop} {X : Nat → Act → World → Prop} (hf : P.funcs[f]? = some fn) (hb : fn.body = some c) (hs : args.size ≤ fn.ntmps)
    (h : ∀ a, Fr fn.ntmps (envOf args.toList 0) a → after P X (bodyPost P fn R) [.code c] .normal a w) : Calls P f args w R := by
  refine calls_of_wp hf hb (h _ ?_)
  have he := envOk_start hs
  refine ⟨he.size, he.defers, fun x hx => ?_⟩
  obtain ⟨i, v⟩ := x
  have key : ∀ (l : List Value) (k : Nat), (i, v) ∈ envOf l k → ∃ j, i = k + j ∧ l[j]? = some v := fun l => by
    induction l with
    | nil => intro k h; cases h
    | cons y r ih =>
      intro k h
      rcases List.mem_cons.1 h with e | h
      · simp only [Prod.mk.injEq] at e
        exact ⟨0, by omega, by simp [e.2]⟩
      · obtain ⟨j, h1, h2⟩ := ih (k + 1) h
        exact ⟨j + 1, by omega, by simpa using h2⟩
  obtain ⟨j, h1, h2⟩ := key args.toList 0 hx
  simp only [Nat.zero_add] at h1
  subst h1
  have hlt : i < args.size := by
    have := (List.getElem?_eq_some_iff.1 h2).1
    simpa using this
  have h3 : args[i]? = some v := by simpa using h2
  simp only [Array.getD_eq_getD_getElem?, Array.getElem?_append_left hlt, h3, Option.getD_some]

/-- No round of this name ends here. -/
def noRound (i : Nat) : List Item → Bool
  | [] => true
  | .round k :: K => !Nat.beq k i && noRound i K
  | _ :: K => noRound i K

theorem after_congr {P : Program} {i : Nat} {X Y : Nat → Act → World → Prop} {Q : Exit → Act → World → Prop} (h : ∀ k, k ≠ i → Y k = X k) : ∀ {K : List Item}, noRound i K = true → after P Y Q K = after P X Q K
  | [], _ => rfl
  | .code c :: K, hk => by simp only [after, after_congr h (K := K) hk]
  | .ops ops rest :: K, hk => by simp only [after, after_congr h (K := K) hk]
  | .blk id :: K, hk => by simp only [after, after_congr h (K := K) hk]
  | .round k :: K, hk => by
    simp only [noRound, Bool.and_eq_true, Bool.not_eq_true'] at hk
    have hne : k ≠ i := fun e => by subst e; simp at hk
    simp only [after, after_congr h (K := K) hk.2, h k hne]

/-- A loop, by what holds ahead of each round and a number that falls. -/
theorem loop_after {P : Program} {b : Code} {i : Nat} {X : Nat → Act → World → Prop} {Q : Exit → Act → World → Prop} {K : List Item} {a : Act} {w : World} (hk : noRound i K = true) (I : Nat → Act → World → Prop) (n : Nat) (h0 : I n a w)
    (step : ∀ n a w, I n a w → ∀ Y : Nat → Act → World → Prop, (∀ m a' w', m < n → I m a' w' → Y i a' w') → (∀ k, k ≠ i → Y k = X k) → after P Y Q (.code b :: .round i :: K) .normal a w) : (Code.loop b).wp P (after P X Q K) a w := by
  refine wp_loop_ghost I n h0 fun n a w hI => ?_
  have h := step n a w hI (fun k => if k = i then (fun a' w' => ∃ n', n' < n ∧ I n' a' w') else X k) (fun m a' w' hm hI' => by simp only [if_true]; exact ⟨m, hm, hI'⟩) (fun k hk => by simp only [if_neg hk])
  have e := after_congr (P := P) (Q := Q) (i := i) (X := X) (Y := fun k => if k = i then (fun a' w' => ∃ n', n' < n ∧ I n' a' w') else X k) (fun k hk => by simp only [if_neg hk]) hk
  simp only [after, if_true, e] at h
  exact h

/-- The cuts of a piece of code: each loop by its first region's number: its round, and what follows it. -/
def cutsC : Code → List Item → List (Nat × Code × List Item)
  | .seq a b, K => cutsC a (.code b :: K) ++ cutsC b K
  | .cond _ a b, K => cutsC a K ++ cutsC b K
  | .block id b, K => cutsC b (.blk id :: K)
  | .loop b, K => ((firstRegion b).getD 0, b, K) :: cutsC b (.round ((firstRegion b).getD 0) :: K)
  | _, _ => []
def cutIn (r : Nat) : List (Nat × Code × List Item) → Code × List Item
  | [] => (.skip, [])
  | x :: l => match Nat.beq x.1 r with
    | true => x.2
    | false => cutIn r l
/-- A function's code, and a loop in it: its round, what follows it. -/
def codeOf (fn : Func) : Code := fn.body.getD .skip
def cutAt (fn : Func) (r : Nat) : Code × List Item := cutIn r (cutsC (codeOf fn) [])
/-- The regions of a piece of code: each with what follows it. -/
def regsC : Code → List Item → List (Nat × Array Oper × List Item)
  | .seq a b, K => regsC a (.code b :: K) ++ regsC b K
  | .cond _ a b, K => regsC a K ++ regsC b K
  | .block id b, K => regsC b (.blk id :: K)
  | .loop b, K => regsC b (.round ((firstRegion b).getD 0) :: K)
  | .region r ops _, K => [(r, ops, K)]
  | _, _ => []
def codesC : Code → List Item → List (Nat × List Item)
  | .seq a b, K => codesC a (.code b :: K) ++ codesC b K
  | .cond _ a b, K => codesC a K ++ codesC b K
  | .block id b, K => codesC b (.blk id :: K)
  | .loop b, K => codesC b (.round ((firstRegion b).getD 0) :: K)
  | .region r ops d, K => [(r, .code (.region r ops d) :: K)]
  | _, _ => []
def codeIn (r : Nat) : List (Nat × List Item) → List Item
  | [] => []
  | x :: l => match Nat.beq x.1 r with
    | true => x.2
    | false => codeIn r l
/-- What is still to be done ahead of a region of a function. -/
def itemsAt (fn : Func) (r : Nat) : List Item := codeIn r (codesC (codeOf fn) [])
def regIn (r : Nat) : List (Nat × Array Oper × List Item) → Array Oper × List Item
  | [] => (#[], [])
  | x :: l => match Nat.beq x.1 r with
    | true => x.2
    | false => regIn r l
/-- A region of a function, and what follows it; its operations from number m on. -/
def regAt (fn : Func) (r : Nat) : Array Oper × List Item := regIn r (regsC (codeOf fn) [])
def opsFrom (fn : Func) (r m : Nat) : List Item := .ops (regAt fn r).1 ((regAt fn r).1.toList.drop m) :: (regAt fn r).2
/-- A round of a loop, and what follows. -/
def roundAt (fn : Func) (r : Nat) : List Item := .code (cutAt fn r).1 :: .round r :: (cutAt fn r).2
end Go.Proofs.YtmihblocomnfjaaDoor.Sy
