/- A walk that the kernel carries out: frames, operations in their order. -/
import Derived.Test.YtmihblocomnfjaaDoorSyVec
import Derived.Conc.AtomicLaws2
set_option linter.unusedSimpArgs false
set_option linter.unusedVariables false
namespace Go.Proofs.YtmihblocomnfjaaDoor.Sy
open Go

abbrev Env := List (Nat × Value)
def get : Env → Nat → Value
  | [], _ => undef
  | (i, v) :: r, t => match Nat.beq i t with
    | true => v
    | false => get r t
def evalE (n : Nat) (env : Env) : Operand → Value
  | .tmp t => match Nat.blt t n with
    | true => get env t
    | false => undef
  | .const v => v
  | .global g => .pointer (some ⟨g, 0, none⟩)
  | .func f => .func (.func f) #[] #[]
structure EnvOk (n : Nat) (env : Env) (a : Act) : Prop where
  get : ∀ t, t < n → a.tmps.getD t undef = get env t
  size : a.tmps.size = n
  defers : a.defers = []
def putE (n : Nat) (env : Env) (dst : Option Tmp) (v : Value) : Env :=
  match dst with
  | none => env
  | some d => match Nat.blt d n with
    | true => (d, v) :: env
    | false => env

theorem blt_iff (a b : Nat) : Nat.blt a b = true ↔ a < b := blt_lt a b

theorem EnvOk.eval {n : Nat} {env : Env} {a : Act} (h : EnvOk n env a) : evalE n env = a.eval := by
  funext x
  cases x with
  | tmp t =>
    simp only [evalE, Act.eval]
    split
    · rename_i hb; exact (h.get t ((blt_iff _ _).1 hb)).symm
    · rename_i hb
      have : ¬ t < n := fun hh => by rw [(blt_iff _ _).2 hh] at hb; cases hb
      rw [← h.size] at this
      simp [Array.getD, this]
  | _ => rfl

theorem EnvOk.put {n : Nat} {env : Env} {a : Act} (h : EnvOk n env a) (dst : Option Tmp) (v : Value) : EnvOk n (putE n env dst v) (a.put dst v) := by
  cases dst with
  | none => exact h
  | some d =>
    simp only [putE, Act.put]
    refine ⟨fun t ht => ?_, by simpa using h.size, h.defers⟩
    have hs := h.size
    split
    · rename_i hb
      have hd := (blt_iff _ _).1 hb
      simp only [Sy.get]
      split
      · rename_i he
        have := Nat.eq_of_beq_eq_true he
        subst this
        simp [Array.getD, hs, hd]
      · rename_i he
        have : d ≠ t := fun hh => by subst hh; simp at he
        have g := h.get t ht
        simp only [Array.getD_eq_getD_getElem?] at g ⊢
        rw [Array.getElem?_setIfInBounds_ne this]
        exact g
    · rename_i hb
      have hd : ¬ d < n := fun hh => by rw [(blt_iff _ _).2 hh] at hb; cases hb
      have e : a.tmps.setIfInBounds d v = a.tmps := by
        rw [Array.setIfInBounds_eq_of_size_le (by rw [hs]; exact Nat.le_of_not_lt hd)]
      rw [e]
      exact h.get t ht

section
variable (S : Strat) (P : Program)

/-- Does the operation come up at all? -/
def wantE (ops : Array Oper) (n : Nat) (env : Env) (o : Oper) (st : St) : Option (Bool × St) :=
  match o.guard with
  | none => some (true, st)
  | some (j, want) => match (ops[j]?).bind (·.dst) with
    | none => some (false, st)
    | some d => match evalE n env (.tmp d) with
      | .bool b => match st.guess S b with
        | some (g, st') => some (g == want, st')
        | none => none
      | _ => some (false, st)

theorem want_sound {S : Strat} {ops : Array Oper} {n : Nat} {env : Env} {o : Oper} {st st' : St} {g : Bool} {a : Act} (he : EnvOk n env a) (h : wantE S ops n env o st = some (g, st')) (hk : st'.Ok) :
    Region.wanted o (yielded ops a.tmps) = g ∧ st'.cells = st.cells ∧ st'.shapes = st.shapes ∧ st.Ok := by
  unfold wantE at h
  unfold Region.wanted
  split at h
  · simp only [Option.some.injEq, Prod.mk.injEq] at h
    obtain ⟨rfl, rfl⟩ := h
    rename_i hg
    rw [hg]
    exact ⟨rfl, rfl, rfl, hk⟩
  · rename_i j want hg
    rw [hg]
    simp only
    split at h
    · rename_i hd
      simp only [Option.some.injEq, Prod.mk.injEq] at h
      obtain ⟨rfl, rfl⟩ := h
      exact ⟨by simp [yielded, hd], rfl, rfl, hk⟩
    · rename_i d hd
      rw [he.eval] at h
      have ht : ∀ b, a.eval (.tmp d) = .bool b ↔ a.tmps[d]? = some (.bool b) := fun b => by
        simp only [Act.eval, Array.getD_eq_getD_getElem?]
        cases a.tmps[d]? with
        | none => simp [undef]
        | some x => simp
      split at h
      · rename_i b hb
        split at h
        · rename_i g1 s1 hg1
          simp only [Option.some.injEq, Prod.mk.injEq] at h
          obtain ⟨rfl, rfl⟩ := h
          obtain ⟨h1, h2, h3, h4⟩ := guess_ok hg1 hk
          refine ⟨?_, h3, h4, h1⟩
          simp [yielded, hd, (ht b).1 hb, h2]
        · cases h
      · rename_i hx
        simp only [Option.some.injEq, Prod.mk.injEq] at h
        obtain ⟨rfl, rfl⟩ := h
        refine ⟨?_, rfl, rfl, hk⟩
        have : yielded ops a.tmps j = none := by
          simp only [yielded, hd, Option.bind_some]
          split
          · rename_i b hb; exact absurd ((ht b).2 hb) (hx b)
          · rfl
        rw [this]; rfl

theorem want_mono {S : Strat} {ops : Array Oper} {n : Nat} {env : Env} {o : Oper} {st st' : St} {g : Bool} (h : wantE S ops n env o st = some (g, st')) (hk : st'.Ok) : st.Ok := by
  unfold wantE at h
  split at h
  · simp only [Option.some.injEq, Prod.mk.injEq] at h
    obtain ⟨rfl, rfl⟩ := h
    exact hk
  · split at h
    · simp only [Option.some.injEq, Prod.mk.injEq] at h
      obtain ⟨rfl, rfl⟩ := h
      exact hk
    · split at h
      · split at h
        · rename_i g1 s1 hg1
          simp only [Option.some.injEq, Prod.mk.injEq] at h
          obtain ⟨rfl, rfl⟩ := h
          exact (guess_ok hg1 hk).1
        · cases h
      · simp only [Option.some.injEq, Prod.mk.injEq] at h
        obtain ⟨rfl, rfl⟩ := h
        exact hk

/-- Which function an operation calls, and with what. -/
def calleeE (eval : Operand → Value) (o : Oper) : Option (FuncId × Array Value) :=
  match o.op with
  | .call c => match c.callee with
    | .value x => match eval x with
      | .func fn first captured => match fn with
        | .func f => some (f, (first.toList ++ (c.args.toList.map eval ++ captured.toList)).toArray)
        | _ => none
      | _ => none
    | _ => none
  | _ => none
def extOf (f : FuncId) : List (FuncId × (Array Value → Sem Value)) → Option (Array Value → Sem Value)
  | [] => none
  | x :: r => match Nat.beq x.1 f with
    | true => some x.2
    | false => extOf f r
def isIn' (f : FuncId) : List FuncId → Bool
  | [] => false
  | x :: r => match Nat.beq x f with
    | true => true
    | false => isIn' f r
theorem isIn'_mem {f : FuncId} : ∀ {l : List FuncId}, isIn' f l = true → f ∈ l
  | x :: r, h => by
    simp only [isIn'] at h
    split at h
    · rename_i hb; rw [← Nat.eq_of_beq_eq_true hb]; exact List.mem_cons_self ..
    · exact List.mem_cons_of_mem _ (isIn'_mem h)
def hasBody (P : Program) (f : FuncId) : Bool :=
  match P.funcs[f]? with
  | some fn => fn.body.isSome
  | none => false

/-- A compare-and-swap of a word. -/
def casE (S : Strat) (P : Program) (ν : Key → Nat) (key : Key) (args : List Value) (st : St) : Option (Value × St) :=
  match args with
  | [.pointer (some ad), .int .u64 y, .int .u64 n] => match sem S P ν key (.load .atomic ad .pure) 0 st with
    | some (.int .u64 x, st2) => match st2.guess S (x == y) with
      | some (true, st3) => sem S P ν key (.store .atomic ad (.int .u64 n) (.pure (.bool true))) 0 st3
      | some (false, st3) => some (.bool false, st3)
      | none => none
    | _ => none
  | _ => none
/-- One load. -/
theorem sem_load {S : Strat} {P : Program} {ν : Key → Nat} {key : Key} {C : Nat → Nat → Prop} {B : Nat} {w : World} {m : Mode} {a : Addr} {j : Nat} {st st' : St} {v : Value} (hi : Inv C B w st) (h : sem S P ν key (.load m a .pure) j st = some (v, st')) (hk : st'.Ok) :
    w.cell? a = some v ∧ w.frozen? a = false ∧ st'.cells = st.cells ∧ st'.shapes = st.shapes := by
  simp only [sem] at h
  split at h
  · rename_i x g κ s1 hl
    split at h
    rotate_left
    · cases h
    rename_i s2 hg
    simp only [Option.some.injEq, Prod.mk.injEq] at h
    obtain ⟨rfl, rfl⟩ := h
    obtain ⟨_, _, e1, e2, _, _⟩ := elem_ok hl
    obtain ⟨_, hc, e3, e4⟩ := guess_ok hg ⟨fun p hp => hk.eqs p (List.mem_cons_of_mem _ hp), hk.conds⟩
    obtain ⟨_, h3, h4⟩ := elem_cell hi hl (hk.eqs _ (List.mem_cons_self ..))
    refine ⟨h3 _ ?_, h4, e3.trans e1, e4.trans e2⟩
    rw [asK_eq hc]
    rw [List.getD_eq_getElem?_getD] at hc ⊢
    cases hx : x.xs[a.off]? with
    | none => rw [hx] at hc; simp only [Option.getD_none, isK_noV] at hc; cases hc
    | some v => rfl
  · split at h
    · rename_i r0 κ s1 hl
      split at h
      · rename_i s2 hg
        split at h
        · rename_i s3 hg3
          simp only [Option.some.injEq, Prod.mk.injEq] at h
          obtain ⟨rfl, rfl⟩ := h
          obtain ⟨q0, q1, q2, _, _⟩ := roE_ok hl
          obtain ⟨p1, hc3, p3, p4⟩ := guess_ok hg3 ⟨fun p hp => hk.eqs p (List.mem_cons_of_mem _ hp), hk.conds⟩
          obtain ⟨_, hc, e3, e4⟩ := guess_ok hg p1
          have ha := hk.eqs _ (List.mem_cons_self ..)
          simp only [addr, Value.pointer.injEq, Option.some.injEq] at ha
          obtain ⟨_, _, h5⟩ := hi.ro r0 q0
          have key : w.cell? a = some (asK κ (r0.xs.getD (Nat.sub a.off r0.a.off) noV)) ∧ w.frozen? a = false := by
            rw [asK_eq hc]
            rw [List.getD_eq_getElem?_getD] at hc ⊢
            cases hx : r0.xs[Nat.sub a.off r0.a.off]? with
            | none => rw [hx] at hc; simp only [Option.getD_none, isK_noV] at hc; cases hc
            | some v =>
              obtain ⟨h6, h8, _⟩ := h5 _ v hx
              have hle := Nat.le_of_ble_eq_true hc3
              have h7 : r0.a.off + Nat.sub a.off r0.a.off = a.off := by
                have : Nat.sub a.off r0.a.off = a.off - r0.a.off := rfl
                omega
              rw [h7, ← ha] at h6 h8
              exact ⟨h6, h8⟩
          exact ⟨key.1, key.2, p3.trans (e3.trans q1), p4.trans (e4.trans q2)⟩
        · cases h
      · cases h
    split at h
    · rename_i i c s1 hl
      split at h
      · rename_i u hv
        simp only [Option.some.injEq, Prod.mk.injEq] at h
        obtain ⟨rfl, rfl⟩ := h
        have h3 := look_ok hl hk
        have hm := List.mem_of_getElem? h3.2.2.1
        exact ⟨by rw [h3.2.1]; exact hi.cell c hm u hv, by rw [h3.2.1]; exact hi.free c hm, h3.2.2.2.1, h3.2.2.2.2⟩
      · cases h
    · cases h

/-- The functions without a text: what they do; the others have a text, and none is the model's own counter. -/
structure LinkOk (S : Strat) (P : Program) : Prop where
  ext : ∀ x ∈ S.ext, ∃ fn, P.funcs[x.1]? = some fn ∧ (fn.name == "runtime.NumGoroutine") = false ∧ fn.body = none ∧ Extern.findNext fn = none ∧ Extern.find fn = some x.2
  cas : ∀ f ∈ S.cas, ∃ fn, P.funcs[f]? = some fn ∧ (fn.name == "runtime.NumGoroutine") = false ∧ fn.body = none ∧ Extern.findNext fn = none ∧ Extern.find fn = some (Extern.Atomic.casT (.int .u64))
  name : ∀ (f : FuncId) fn, P.funcs[f]? = some fn → (fn.name == "runtime.NumGoroutine") = false

theorem extOf_mem {f : FuncId} {e : Array Value → Sem Value} : ∀ {l : List (FuncId × (Array Value → Sem Value))}, extOf f l = some e → (f, e) ∈ l
  | x :: r, h => by
    simp only [extOf] at h
    split at h
    · rename_i hb
      simp only [Option.some.injEq] at h
      rw [← Nat.eq_of_beq_eq_true hb, ← h]
      exact List.mem_cons_self ..
    · exact List.mem_cons_of_mem _ (extOf_mem h)

theorem callee_exec {eval : Operand → Value} {o : Oper} {f : FuncId} {args : Array Value} (h : calleeE eval o = some (f, args)) : execOp eval o = callFunc f args := by
  obtain ⟨dst, op, type, pos, after, guard⟩ := o
  unfold calleeE at h
  split at h
  · rename_i c heq
    simp only at heq
    subst heq
    split at h
    · rename_i x hx
      split at h
      · rename_i fn first captured hv
        split at h
        · rename_i f'
          simp only [Option.some.injEq, Prod.mk.injEq] at h
          obtain ⟨rfl, rfl⟩ := h
          obtain ⟨callee, argv, ats⟩ := c
          simp only at hx
          subst hx
          have e : (first.toList ++ (argv.toList.map eval ++ captured.toList)).toArray = first ++ argv.map eval ++ captured := by
            apply Array.toList_inj.1
            simp
          unfold execOp
          simp only [resolve, hv, Deferred.ofValue, e]
          rfl
        · cases h
      · cases h
    · cases h
  · cases h

theorem callFunc_ext {P : Program} {f : FuncId} {fn : Func} {e : Array Value → Sem Value} {args : Array Value} (hf : P.funcs[f]? = some fn) (hn : (fn.name == "runtime.NumGoroutine") = false) (hb : fn.body = none) (h1 : Extern.findNext fn = none) (h2 : Extern.find fn = some e) {w w' : World} {v : Value}
    (h : (e args).run P w = .ok v w') : (callFunc f args).run P w = .ok (.value v) w' := by
  have e1 : ∀ {α : Type} (k : Program → Sem α) (w : World), (Sem.program k).run P w = (k P).run P w := fun _ _ => rfl
  have e2 : ∀ {α : Type} (m : Mark) (k : Sem α) (w : World), (Sem.mark m k).run P w = k.run P w := fun _ _ _ => rfl
  have hn' : ¬ fn.name = "runtime.NumGoroutine" := by simpa using hn
  simp [callFunc, program, mark, e1, e2, hf, hn', hb, h1, h2, h]
theorem callFunc_body {P : Program} {f : FuncId} {fn : Func} {args : Array Value} (hf : P.funcs[f]? = some fn) (hn : (fn.name == "runtime.NumGoroutine") = false) (hb : fn.body.isSome = true) (w : World) :
    (callFunc f args).run P w = .ok (.enter f args) w := by
  have : fn.body.isNone = false := by cases h : fn.body <;> simp_all
  have e1 : ∀ {α : Type} (k : Program → Sem α) (w : World), (Sem.program k).run P w = (k P).run P w := fun _ _ => rfl
  have hn' : ¬ fn.name = "runtime.NumGoroutine" := by simpa using hn
  have hb' : ¬ fn.body = none := by intro e; rw [e] at hb; cases hb
  simp [callFunc, program, e1, hf, hn', hb']

theorem casE_mono {S : Strat} {P : Program} {ν : Key → Nat} {key : Key} {args : List Value} {st st' : St} {v : Value} (h : casE S P ν key args st = some (v, st')) (hk : st'.Ok) : st.Ok := by
  unfold casE at h
  split at h
  · split at h
    · rename_i hl
      split at h
      · rename_i hg
        exact sem_mono _ _ _ _ _ hl (guess_ok hg (sem_mono _ _ _ _ _ h hk)).1
      · rename_i hg
        simp only [Option.some.injEq, Prod.mk.injEq] at h
        obtain ⟨_, rfl⟩ := h
        exact sem_mono _ _ _ _ _ hl (guess_ok hg hk).1
      · cases h
    · cases h
  · cases h

theorem cas_sound {S : Strat} {P : Program} {C : Nat → Nat → Prop} {B : Nat} {D : Dom} {w : World} {st st' : (Key → Nat) → St} {v : (Key → Nat) → Value} {key : Key} {args : Array Value} (hB : B ≤ w.heap.size) (hf : ∀ i, D (i :: key) = none) (hfam : Fam C B D w st)
    (h : ∀ ν, Ag D ν → casE S P ν key args.toList (st ν) = some (v ν, st' ν) ∧ (st' ν).Ok) :
    ∃ x w' D', (Extern.Atomic.casT (.int .u64) args).run P w = .ok x w' ∧ Dom.Ext key D D' ∧ (∀ ν, Ag D' ν → v ν = x) ∧ Fam C B D' w' st' ∧ Sub (fun k i => C k i ∨ B ≤ k) w w' := by
  have key0 : ∀ ν, Ag D ν → ∃ ad y n x, args.toList = [.pointer (some ad), .int .u64 y, .int .u64 n] ∧ w.cell? ad = some (.int .u64 x) ∧ w.frozen? ad = false ∧ ∃ st3 : St, st3.cells = (st ν).cells ∧ st3.shapes = (st ν).shapes ∧
      ((x = y ∧ sem S P ν key (.store .atomic ad (.int .u64 n) (.pure (.bool true))) 0 st3 = some (v ν, st' ν)) ∨ (x ≠ y ∧ v ν = .bool false ∧ st' ν = st3)) := fun ν hν => by
    obtain ⟨g1, g2⟩ := h ν hν
    unfold casE at g1
    split at g1
    · rename_i ad y n hargs
      split at g1
      · rename_i x st2 hl
        refine ⟨ad, y, n, x, hargs, ?_⟩
        split at g1
        · rename_i st3 hg
          obtain ⟨r1, r2, r3, r4⟩ := guess_ok hg (sem_mono _ _ _ _ _ g1 g2)
          obtain ⟨l1, l2, l3, l4⟩ := sem_load (hfam.inv ν hν) hl r1
          exact ⟨l1, l2, st3, r3.trans l3, r4.trans l4, .inl ⟨by simpa using r2, g1⟩⟩
        · rename_i st3 hg
          simp only [Option.some.injEq, Prod.mk.injEq] at g1
          obtain ⟨e1, e2⟩ := g1
          rw [← e2] at g2
          obtain ⟨r1, r2, r3, r4⟩ := guess_ok hg g2
          obtain ⟨l1, l2, l3, l4⟩ := sem_load (hfam.inv ν hν) hl r1
          exact ⟨l1, l2, st3, r3.trans l3, r4.trans l4, .inr ⟨by simpa using r2, e1.symm, e2.symm⟩⟩
        · cases g1
      · cases g1
    · cases g1
  obtain ⟨ad, y, n, x, hargs, hc, hz, _⟩ := key0 _ (Ag.some D)
  have harr : args = #[.pointer (some ad), .int .u64 y, .int .u64 n] := by rw [← Array.toArray_toList (xs := args), hargs]
  obtain ⟨f, hf3⟩ := pick (D := D) (st (fun _ => 0)) (Q := fun ν st3 => st3.cells = (st ν).cells ∧ st3.shapes = (st ν).shapes ∧
      ((x = y ∧ sem S P ν key (.store .atomic ad (.int .u64 n) (.pure (.bool true))) 0 st3 = some (v ν, st' ν)) ∨ (x ≠ y ∧ v ν = .bool false ∧ st' ν = st3))) (fun ν hν => by
    obtain ⟨ad', y', n', x', h1, h2, _, st3, h4⟩ := key0 ν hν
    rw [hargs] at h1
    simp only [List.cons.injEq, Value.pointer.injEq, Option.some.injEq, Value.int.injEq, true_and, and_true] at h1
    obtain ⟨rfl, rfl, rfl⟩ := h1
    rw [hc] at h2
    simp only [Option.some.injEq, Value.int.injEq, true_and] at h2
    subst h2
    exact ⟨st3, h4⟩)
  have hfam3 : Fam C B D w f := hfam.of_cells fun ν hν => ⟨(hf3 ν hν).1, (hf3 ν hν).2.1⟩
  rw [harr, Conc.casT_eq]
  by_cases e : x = y
  · subst e
    rw [Conc.run_cas_hit_entry hc hz]
    obtain ⟨a, w', D', e1, e2, e3, e4, e5⟩ := sem_sound (P := P) (.store .atomic ad (.int .u64 n) (.pure (.bool true))) 0 w D f v st' hB (fun i _ => hf i) hfam3 (fun ν hν => ⟨(hf3 ν hν).2.2.resolve_right (fun hh => hh.1 rfl) |>.2, (h ν hν).2⟩)
    have e6 : (Sem.store .atomic ad (.int .u64 n) (.pure (.bool true)) : Sem Value).run P w = .ok (.bool true) (w.setCell ad (.int .u64 n)) := by simp [Sem.run, hc, hz]
    rw [e6] at e1
    simp only [Result.ok.injEq] at e1
    exact ⟨a, w', D', by rw [e1.1, e1.2], e2, e3, e4, e5⟩
  · rw [Conc.run_cas_miss_entry hc hz e]
    have h4 := fun ν hν => ((hf3 ν hν).2.2.resolve_left (fun hh => e hh.1)).2
    exact ⟨.bool false, w, D, rfl, Dom.Ext.refl _ _, fun ν hν => (h4 ν hν).1, hfam3.congr fun ν hν => (h4 ν hν).2, Sub.refl _ _⟩

abbrev CallF := Key → FuncId → Array Value → St → Option (Value × St)

def opE (call : CallF) (ν : Key → Nat) (ops : Array Oper) (n : Nat) (key : Key) (env : Env) (o : Oper) (st : St) : Option (Value × St) :=
  match wantE S ops n env o st with
  | none => none
  | some (false, st1) => some (undef, st1)
  | some (true, st1) => match calleeE (evalE n env) o with
   | some (f, args) => match extOf f S.ext with
     | some e => sem S P ν (0 :: key) (e args) 0 st1
     | none => match isIn' f S.cas with
      | true => casE S P ν (0 :: key) args.toList st1
      | false => match hasBody P f with
       | true => call (1 :: key) f args st1
       | false => none
   | none => match isVec S o with
   | true => vecE P S ν (0 :: key) (evalE n env) o st1
   | false => match isSp (evalE n env) o with
    | true => match special P S (evalE n env) o st1 with
      | .yes v st2 => some (v, st2)
      | _ => none
    | false => match sem S P ν (0 :: key) (execOp (evalE n env) o) 0 st1 with
      | some (.value v, st2) => some (v, st2)
      | some (.skip, st2) => some (undef, st2)
      | some (.enter f args, st2) => call (1 :: key) f args st2
      | _ => none
end

/-- What a call of the walk owes. -/
structure CallOk (P : Program) (call : (Key → Nat) → CallF) : Prop where
  mono : ∀ ν key f args st r st', call ν key f args st = some (r, st') → st'.Ok → st.Ok
  sound : ∀ (C : Nat → Nat → Prop) (B : Nat) (key : Key) (f : FuncId) (args : Array Value) (w : World) (D : Dom) (st : (Key → Nat) → St) (r : (Key → Nat) → Value) (st' : (Key → Nat) → St),
    B ≤ w.heap.size → (∀ k, key <:+ k → D k = none) → Fam C B D w st → (∀ ν, Ag D ν → call ν key f args (st ν) = some (r ν, st' ν) ∧ (st' ν).Ok) →
    Calls P f args w fun e w' => ∃ v D', e = .returned v ∧ Dom.Ext key D D' ∧ (∀ ν, Ag D' ν → r ν = v) ∧ Fam C B D' w' st' ∧ Sub (fun k i => C k i ∨ B ≤ k) w w'

theorem opE_mono {S : Strat} {P : Program} {call : (Key → Nat) → CallF} (hc : CallOk P call) {ν : Key → Nat} {ops : Array Oper} {n : Nat} {key : Key} {env : Env} {o : Oper} {st st' : St} {v : Value}
    (h : opE S P (call ν) ν ops n key env o st = some (v, st')) (hk : st'.Ok) : st.Ok := by
  unfold opE at h
  split at h
  · cases h
  · rename_i s1 hw
    simp only [Option.some.injEq, Prod.mk.injEq] at h
    obtain ⟨rfl, rfl⟩ := h
    exact want_mono hw hk
  · rename_i s1 hw
    refine want_mono hw ?_
    split at h
    · split at h
      · exact sem_mono _ _ _ _ _ h hk
      · split at h
        · exact casE_mono h hk
        · split at h
          · exact hc.mono _ _ _ _ _ _ _ h hk
          · cases h
    split at h
    · exact vecE_mono h hk
    split at h
    · split at h
      · rename_i hs
        simp only [Option.some.injEq, Prod.mk.injEq] at h
        obtain ⟨rfl, rfl⟩ := h
        exact (special_sound P hs hk).2.2.2
      · cases h
    · split at h
      · rename_i hs
        simp only [Option.some.injEq, Prod.mk.injEq] at h
        obtain ⟨rfl, rfl⟩ := h
        exact sem_mono _ _ _ _ _ hs hk
      · rename_i hs
        simp only [Option.some.injEq, Prod.mk.injEq] at h
        obtain ⟨rfl, rfl⟩ := h
        exact sem_mono _ _ _ _ _ hs hk
      · rename_i hs
        exact sem_mono _ _ _ _ _ hs (hc.mono _ _ _ _ _ _ _ h hk)
      · cases h

/-- What stands behind an operation, a call. -/
def After (C : Nat → Nat → Prop) (B : Nat) (key : Key) (D : Dom) (w : World) (v : (Key → Nat) → Value) (st' : (Key → Nat) → St) (x : Value) (w' : World) : Prop :=
  ∃ D', Dom.Ext key D D' ∧ (∀ ν, Ag D' ν → v ν = x) ∧ Fam C B D' w' st' ∧ Sub (fun k i => C k i ∨ B ≤ k) w w'

theorem suffix_ne {i j : Nat} {l k : List Nat} (h : (i :: l) <:+ k) (h' : (j :: l) <:+ k) : i = j := by
  have := List.suffix_of_suffix_length_le h h' (by simp)
  have e := this.eq_of_length (by simp)
  simpa using e

theorem op_sound {S : Strat} {P : Program} (hL : LinkOk S P) {call : (Key → Nat) → CallF} (hc : CallOk P call) {C : Nat → Nat → Prop} {B : Nat} {ops : Array Oper} {n : Nat} {key : Key} {o : Oper} {a : Act} {w : World} {D : Dom}
    {env : (Key → Nat) → Env} {st : (Key → Nat) → St} {v : (Key → Nat) → Value} {st' : (Key → Nat) → St} {K : Act → World → Prop} {Q : Exit → Act → World → Prop}
    (hB : B ≤ w.heap.size) (hf : ∀ k, key <:+ k → D k = none) (hi : ∀ ν, Ag D ν → EnvOk n (env ν) a) (hfam : Fam C B D w st)
    (h : ∀ ν, Ag D ν → opE S P (call ν) ν ops n key (env ν) o (st ν) = some (v ν, st' ν) ∧ (st' ν).Ok)
    (hK : ∀ x w', After C B key D w v st' x w' → K (a.put o.dst x) w') :
    if Region.wanted o (yielded ops a.tmps) then o.wp P a w K Q else K (a.put o.dst undef) w := by
  -- 1. who wants it
  have key1 : ∀ ν, Ag D ν → ∃ s1, wantE S ops n (env ν) o (st ν) = some (Region.wanted o (yielded ops a.tmps), s1) ∧ s1.cells = (st ν).cells ∧ s1.shapes = (st ν).shapes := fun ν hν => by
    obtain ⟨h1, h2⟩ := h ν hν
    have he := hi ν hν
    unfold opE at h1
    cases hw : wantE S ops n (env ν) o (st ν) with
    | none => rw [hw] at h1; cases h1
    | some x =>
      obtain ⟨g, s1⟩ := x
      have hk1 : s1.Ok := by
        rw [hw] at h1
        cases g with
        | false =>
          simp only [Option.some.injEq, Prod.mk.injEq] at h1
          obtain ⟨_, rfl⟩ := h1
          exact h2
        | true =>
          simp only at h1
          split at h1
          · split at h1
            · exact sem_mono _ _ _ _ _ h1 h2
            · split at h1
              · exact casE_mono h1 h2
              · split at h1
                · exact hc.mono _ _ _ _ _ _ _ h1 h2
                · cases h1
          split at h1
          · exact vecE_mono h1 h2
          split at h1
          · split at h1
            · rename_i hs
              simp only [Option.some.injEq, Prod.mk.injEq] at h1
              obtain ⟨_, rfl⟩ := h1
              exact (special_sound P hs h2).2.2.2
            · cases h1
          · split at h1
            · rename_i hs
              simp only [Option.some.injEq, Prod.mk.injEq] at h1
              obtain ⟨_, rfl⟩ := h1
              exact sem_mono _ _ _ _ _ hs h2
            · rename_i hs
              simp only [Option.some.injEq, Prod.mk.injEq] at h1
              obtain ⟨_, rfl⟩ := h1
              exact sem_mono _ _ _ _ _ hs h2
            · rename_i hs
              exact sem_mono _ _ _ _ _ hs (hc.mono _ _ _ _ _ _ _ h1 h2)
            · cases h1
      obtain ⟨e1, e2, e3, _⟩ := want_sound he hw hk1
      exact ⟨s1, by rw [e1], e2, e3⟩
  obtain ⟨f1, hf1⟩ := pick (st (fun _ => 0)) key1
  have hfam1 : Fam C B D w f1 := hfam.of_cells fun ν hν => (hf1 ν hν).2
  by_cases hwant : Region.wanted o (yielded ops a.tmps) = true
  · rw [if_pos hwant]
    have h3 : ∀ ν, Ag D ν → (match calleeE a.eval o with
      | some (f, args) => (match extOf f S.ext with
        | some e => sem S P ν (0 :: key) (e args) 0 (f1 ν)
        | none => (match isIn' f S.cas with
          | true => casE S P ν (0 :: key) args.toList (f1 ν)
          | false => (match hasBody P f with
            | true => call ν (1 :: key) f args (f1 ν)
            | false => none)))
      | none => (match isVec S o with
       | true => vecE P S ν (0 :: key) a.eval o (f1 ν)
       | false => (match isSp a.eval o with
        | true => (match special P S a.eval o (f1 ν) with
          | .yes v st2 => some (v, st2)
          | _ => none)
        | false => (match sem S P ν (0 :: key) (execOp a.eval o) 0 (f1 ν) with
          | some (.value v, st2) => some (v, st2)
          | some (.skip, st2) => some (undef, st2)
          | some (.enter f args, st2) => call ν (1 :: key) f args st2
          | _ => none)))) = some (v ν, st' ν) ∧ (st' ν).Ok := fun ν hν => by
      obtain ⟨h1, h2⟩ := h ν hν
      obtain ⟨g1, g2⟩ := hf1 ν hν
      refine ⟨?_, h2⟩
      unfold opE at h1
      rw [g1, hwant] at h1
      simp only [(hi ν hν).eval] at h1
      exact h1
    cases hcal : calleeE a.eval o with
    | some fa =>
      obtain ⟨f, args⟩ := fa
      simp only [hcal] at h3
      have hex := callee_exec hcal
      cases he : extOf f S.ext with
      | some e =>
        simp only [he] at h3
        obtain ⟨fn, hfn, hn, hb, hx1, hx2⟩ := hL.ext _ (extOf_mem he)
        obtain ⟨x, w', D', hr, hx, hy, hy', hz⟩ := sem_sound (e args) 0 w D f1 v st' hB (fun i _ => hf _ ⟨[i, 0], rfl⟩) hfam1 h3
        unfold Oper.wp
        rw [hex, callFunc_ext hfn hn hb hx1 hx2 hr]
        exact hK _ _ ⟨D', hx.mono (List.suffix_cons _ _), hy, hy', hz⟩
      | none =>
        simp only [he] at h3
        cases hcs : isIn' f S.cas with
        | true =>
          simp only [hcs] at h3
          obtain ⟨fn, hfn, hn, hb, hx1, hx2⟩ := hL.cas _ (isIn'_mem hcs)
          obtain ⟨x, w', D', hr, hx, hy, hy', hz⟩ := cas_sound hB (fun i => hf _ ⟨[i, 0], rfl⟩) hfam1 h3
          unfold Oper.wp
          rw [hex, callFunc_ext hfn hn hb hx1 hx2 hr]
          exact hK _ _ ⟨D', hx.mono (List.suffix_cons _ _), hy, hy', hz⟩
        | false =>
        simp only [hcs] at h3
        cases hb : hasBody P f with
        | false => simp only [hb] at h3; have := (h3 _ (Ag.some D)).1; cases this
        | true =>
          simp only [hb] at h3
          unfold hasBody at hb
          split at hb
          · rename_i fn hfn
            unfold Oper.wp
            rw [hex, callFunc_body hfn (hL.name _ _ hfn) hb]
            have hcall := hc.sound C B (1 :: key) f args w D f1 v st' hB (fun k hk => hf k ((List.suffix_cons _ _).trans hk)) hfam1 h3
            refine hcall.mono fun e w' ⟨x, D2, he, hx, hy, hy', hz⟩ => ?_
            subst he
            exact hK _ _ ⟨D2, hx.mono (List.suffix_cons _ _), hy, hy', hz⟩
          · cases hb
    | none =>
    simp only [hcal] at h3
    by_cases hve : isVec S o = true
    · simp only [hve] at h3
      obtain ⟨x, w', D', hr, hx, hy, hy', hz⟩ := vec_sound hB (fun k hk => hf k ((List.suffix_cons _ _).trans hk)) hfam1 h3
      unfold Oper.wp
      rw [hr]
      exact hK _ _ ⟨D', hx.mono (List.suffix_cons _ _), hy, hy', hz⟩
    simp only [Bool.not_eq_true] at hve
    simp only [hve] at h3
    by_cases hsp : isSp a.eval o = true
    · simp only [hsp] at h3
      have h4 : ∀ ν, Ag D ν → (∀ w, (execOp a.eval o).run P w = .ok (.value (v ν)) w) ∧ (st' ν).cells = (f1 ν).cells ∧ (st' ν).shapes = (f1 ν).shapes := fun ν hν => by
        obtain ⟨g1, g2⟩ := h3 ν hν
        split at g1
        · rename_i hs
          simp only [Option.some.injEq, Prod.mk.injEq] at g1
          obtain ⟨rfl, rfl⟩ := g1
          obtain ⟨r1, r2, r3, _⟩ := special_sound P hs g2
          exact ⟨r1, r2, r3⟩
        · cases g1
      have h0 := h4 _ (Ag.some D)
      unfold Oper.wp
      rw [h0.1 w]
      refine hK _ _ ⟨D, Dom.Ext.refl _ _, fun ν hν => ?_, hfam1.of_cells fun ν hν => (h4 ν hν).2, Sub.refl _ _⟩
      have := (h4 ν hν).1 w
      rw [h0.1 w] at this
      simpa using this.symm
    · simp only [Bool.not_eq_true] at hsp
      simp only [hsp] at h3
      obtain ⟨f2, hf2⟩ := pick (D := D) ((Next.skip, st (fun _ => 0)) : Next × St) (Q := fun ν x => sem S P ν (0 :: key) (execOp a.eval o) 0 (f1 ν) = some (x.1, x.2) ∧ x.2.Ok ∧
          (match x with
            | (.value u, st2) => some (u, st2)
            | (.skip, st2) => some (undef, st2)
            | (.enter f args, st2) => call ν (1 :: key) f args st2
            | _ => none) = some (v ν, st' ν)) (fun ν hν => by
        obtain ⟨g1, g2⟩ := h3 ν hν
        cases hs : sem S P ν (0 :: key) (execOp a.eval o) 0 (f1 ν) with
        | none => rw [hs] at g1; cases g1
        | some x =>
          obtain ⟨nx, s2⟩ := x
          refine ⟨(nx, s2), rfl, ?_, ?_⟩
          · rw [hs] at g1
            cases nx <;> simp only [Option.some.injEq, Prod.mk.injEq] at g1 <;> first
              | (obtain ⟨_, rfl⟩ := g1; exact g2)
              | exact hc.mono _ _ _ _ _ _ _ g1 g2
              | cases g1
          · rw [hs] at g1
            cases nx <;> first | exact g1 | cases g1)
      obtain ⟨nx, w1, D1, e1, e2, e3, e3', e4⟩ := sem_sound (execOp a.eval o) 0 w D f1 (fun ν => (f2 ν).1) (fun ν => (f2 ν).2) hB
        (fun i _ => hf _ ⟨[i, 0], rfl⟩) hfam1 (fun ν hν => ⟨(hf2 ν hν).1, (hf2 ν hν).2.1⟩)
      have hag : ∀ ν, Ag D1 ν → Ag D ν := fun ν hν => hν.ext e2
      have e2' : Dom.Ext key D D1 := e2.mono ⟨[0], rfl⟩
      unfold Oper.wp
      rw [e1]
      have h5 : ∀ ν, Ag D1 ν → (match nx with
            | .value u => some (u, (f2 ν).2)
            | .skip => some (undef, (f2 ν).2)
            | .enter f args => call ν (1 :: key) f args (f2 ν).2
            | _ => none) = some (v ν, st' ν) := fun ν hν => by
        have g := (hf2 ν (hag ν hν)).2.2
        have g1 := e3 ν hν
        generalize f2 ν = x at g g1
        obtain ⟨y, s2⟩ := x
        simp only at g1
        subst g1
        cases y <;> exact g
      cases nx with
      | value u =>
        have g : ∀ ν, Ag D1 ν → _ := fun ν hν => by
          have g := h5 ν hν
          simp only [Option.some.injEq, Prod.mk.injEq] at g
          exact g
        exact hK _ _ ⟨D1, e2', fun ν hν => (g ν hν).1.symm, e3'.congr fun ν hν => (g ν hν).2.symm, e4⟩
      | skip =>
        have g : ∀ ν, Ag D1 ν → _ := fun ν hν => by
          have g := h5 ν hν
          simp only [Option.some.injEq, Prod.mk.injEq] at g
          exact g
        exact hK _ _ ⟨D1, e2', fun ν hν => (g ν hν).1.symm, e3'.congr fun ν hν => (g ν hν).2.symm, e4⟩
      | enter f args =>
        have hfr : ∀ k, (1 :: key) <:+ k → D1 k = none := fun k hk => by
          rw [e2.new k (fun hh => by have := suffix_ne hk hh; omega)]
          exact hf k ((List.suffix_cons _ _).trans hk)
        have hcall := hc.sound C B (1 :: key) f args w1 D1 (fun ν => (f2 ν).2) v st' (Nat.le_trans hB e4.size) hfr e3' (fun ν hν => ⟨h5 ν hν, (h ν (hag ν hν)).2⟩)
        refine hcall.mono fun e w' ⟨x, D2, he, hx, hy, hy', hz⟩ => ?_
        subst he
        exact hK _ _ ⟨D2, e2'.trans (hx.mono (List.suffix_cons _ _)), hy, hy', Sub.trans (B := w.heap.size) e4 (hz.mono fun k i hh => .inl hh) (Nat.le_refl _)⟩
      | _ =>
        have g := h5 _ (Ag.some D1)
        cases g
  · rw [if_neg hwant]
    simp only [Bool.not_eq_true] at hwant
    have h3 : ∀ ν, Ag D ν → v ν = undef ∧ st' ν = f1 ν := fun ν hν => by
      obtain ⟨h1, _⟩ := h ν hν
      unfold opE at h1
      rw [(hf1 ν hν).1, hwant] at h1
      simp only [Option.some.injEq, Prod.mk.injEq] at h1
      exact ⟨h1.1.symm, h1.2.symm⟩
    exact hK _ _ ⟨D, Dom.Ext.refl _ _, fun ν hν => (h3 ν hν).1, hfam1.congr fun ν hν => (h3 ν hν).2, Sub.refl _ _⟩
end Go.Proofs.YtmihblocomnfjaaDoor.Sy
