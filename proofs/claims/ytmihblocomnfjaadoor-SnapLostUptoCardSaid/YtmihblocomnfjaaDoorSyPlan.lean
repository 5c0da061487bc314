/- A walk that the kernel carries out: a plan's check by numbers, which the kernel is quick at. -/
import Derived.Test.YtmihblocomnfjaaDoorSyDrawn
set_option linter.unusedSimpArgs false
set_option linter.unusedVariables false
namespace Go.Proofs.YtmihblocomnfjaaDoor.Sy
open Go

/-! ### The plan's check, by numbers -/
def bit (m i : Nat) : Bool := Nat.testBit m i

def maskL : List Edge → Nat → Nat
  | [], m => m
  | e :: r, m => match Region.binds .any e with
    | true => maskL r (Nat.lor m (Nat.shiftLeft 1 e.on))
    | false => maskL r m
def natsL : List Nat → Nat → Nat
  | [], m => m
  | d :: r, m => natsL r (Nat.lor m (Nat.shiftLeft 1 d))

structure Row where
  aft : Nat
  dst : Nat
  looks : Nat

def rowOf (ops : Array Oper) (o : Oper) : Row :=
  ⟨maskL o.after.toList 0, match o.dst with | some d => Nat.shiftLeft 1 d | none => 0, natsL (o.looksAt ops) 0⟩

def readyF : List Row → Nat → Nat → List Nat
  | [], _, _ => []
  | r :: rs, L, i => match !bit L i && Nat.beq (Nat.land r.aft L) r.aft with
    | true => i :: readyF rs L (i + 1)
    | false => readyF rs L (i + 1)
def freeF (x : Row) (L i : Nat) : List Row → Nat → Bool
  | [], _ => true
  | r :: rs, j => (Nat.beq j i || bit L j || bit r.aft i || (Nat.beq (Nat.land x.dst r.looks) 0 && Nat.beq (Nat.land x.dst r.dst) 0 && Nat.beq (Nat.land r.dst x.looks) 0)) && freeF x L i rs (j + 1)
def takeF (rows : List Row) (L i : Nat) : Bool :=
  match nth rows i with
  | none => false
  | some x => !bit L i && Nat.beq (Nat.land x.aft L) x.aft && freeF x L i rows 0
def natsEq : List Nat → List Nat → Bool
  | [], [] => true
  | a :: r, b :: s => Nat.beq a b && natsEq r s
  | _, _ => false
def planF (rows : List Row) : Plan → Nat → Nat → Bool → Bool
  | .done, _, L, _ => match readyF rows L 0 with | [] => true | _ => false
  | .take i p, f + 1, L, _ => takeF rows L i && planF rows p f (Nat.lor L (Nat.shiftLeft 1 i)) true
  | .alt i p q, f + 1, L, top => (match nth rows i with | some _ => true | none => false) && (!top || natsEq (readyF rows L 0) (i :: altIdx q)) && planF rows p f (Nat.lor L (Nat.shiftLeft 1 i)) true &&
      (isStop q || (isAlt q && planF rows q (f + 1) L false))
  | .swap p, f, L, top => top && planF rows p f L true
  | .fuz l, _, L, _ => (match readyF rows L 0 with | [] => true | _ => false) && fuzOk l
  | _, _, _, _ => false
def planFast (ops : Array Oper) (p : Plan) : Bool := planF (ops.toList.map (rowOf ops)) p ops.size 0 true

theorem natsEq_eq : ∀ {a b : List Nat}, natsEq a b = true → a = b
  | [], [], _ => rfl
  | [], _ :: _, h => by simp [natsEq] at h
  | _ :: _, [], h => by simp [natsEq] at h
  | a :: r, b :: s, h => by
    simp only [natsEq, Bool.and_eq_true, Nat.beq_eq] at h
    rw [h.1, natsEq_eq h.2]

theorem bit_lor (m i j : Nat) : bit (Nat.lor m (Nat.shiftLeft 1 i)) j = (bit m j || decide (j = i)) := by
  show Nat.testBit (m ||| (1 <<< i)) j = _
  rw [Nat.testBit_or]
  have : Nat.testBit (1 <<< i) j = decide (j = i) := by
    rw [Nat.one_shiftLeft, Nat.testBit_two_pow]
    simp [eq_comm]
  rw [this]; rfl

theorem bit_zero (j : Nat) : bit 0 j = false := Nat.zero_testBit j

theorem bit_maskL : ∀ (l : List Edge) (m j : Nat), bit (maskL l m) j = (bit m j || l.any (fun e => Region.binds .any e && e.on == j))
  | [], m, j => by simp [maskL]
  | e :: r, m, j => by
    simp only [maskL]
    split
    · rename_i hb
      rw [bit_maskL r, bit_lor]
      simp only [List.any_cons, hb, Bool.true_and]
      cases bit m j <;> simp [eq_comm, BEq.beq, Nat.beq_eq]
    · rename_i hb
      rw [bit_maskL r]
      simp [List.any_cons, hb]
theorem bit_natsL : ∀ (l : List Nat) (m j : Nat), bit (natsL l m) j = (bit m j || l.contains j)
  | [], m, j => by simp [natsL]
  | d :: r, m, j => by
    simp only [natsL]
    rw [bit_natsL r, bit_lor]
    cases bit m j <;> simp [List.contains_cons]

theorem land_sub {m L : Nat} (h : Nat.beq (Nat.land m L) m = true) (j : Nat) (hj : bit m j = true) : bit L j = true := by
  have e := Nat.eq_of_beq_eq_true h
  have : Nat.testBit (m &&& L) j = Nat.testBit m j := congrArg (fun x => Nat.testBit x j) e
  rw [Nat.testBit_and] at this
  unfold bit at hj ⊢
  rw [hj] at this
  simpa using this
theorem land_all {m L : Nat} (h : ∀ j, bit m j = true → bit L j = true) : Nat.beq (Nat.land m L) m = true := by
  have : Nat.land m L = m := by
    apply Nat.eq_of_testBit_eq
    intro j
    show Nat.testBit (m &&& L) j = _
    rw [Nat.testBit_and]
    cases hj : Nat.testBit m j with
    | false => rfl
    | true => exact h j hj
  rw [this]; simp
theorem land_apart {m L : Nat} (h : Nat.beq (Nat.land m L) 0 = true) (j : Nat) (hj : bit m j = true) : bit L j = false := by
  have e := Nat.eq_of_beq_eq_true h
  have : Nat.testBit (m &&& L) j = Nat.testBit 0 j := congrArg (fun x => Nat.testBit x j) e
  rw [Nat.testBit_and, Nat.zero_testBit] at this
  unfold bit at hj ⊢
  rw [hj] at this
  simpa using this

/-- A list of flags and a number that say the same. -/
structure Same (n : Nat) (listed : Array Bool) (L : Nat) : Prop where
  size : listed.size = n
  has : ∀ j, bit L j = listed.getD j false

theorem Same.lt {n : Nat} {listed : Array Bool} {L : Nat} (h : Same n listed L) {j : Nat} (hj : j < n) : listed.getD j true = bit L j := by
  rw [h.has]
  simp [Array.getD, h.size, hj]
theorem Same.set {n : Nat} {listed : Array Bool} {L : Nat} (h : Same n listed L) {i : Nat} (hi : i < n) : Same n (listed.setIfInBounds i true) (Nat.lor L (Nat.shiftLeft 1 i)) := by
  refine ⟨by simp [h.size], fun j => ?_⟩
  rw [bit_lor, h.has]
  by_cases e : j = i
  · subst e
    simp [Array.getD, h.size, hi]
  · have e' : i ≠ j := fun h => e h.symm
    simp only [Array.getD_eq_getD_getElem?, Array.getElem?_setIfInBounds_ne e', e, decide_false, Bool.or_false]

theorem after_ok {n : Nat} {listed : Array Bool} {L : Nat} (h : Same n listed L) (o : Oper) : (o.after.all fun e => !Region.binds .any e || listed.getD e.on false) = Nat.beq (Nat.land (maskL o.after.toList 0) L) (maskL o.after.toList 0) := by
  rw [Bool.eq_iff_iff, Array.all_eq_true_iff_forall_mem]
  constructor
  · intro hh
    refine land_all fun j hj => ?_
    rw [bit_maskL, bit_zero, Bool.false_or, List.any_eq_true] at hj
    obtain ⟨e, he, hb⟩ := hj
    simp only [Bool.and_eq_true, beq_iff_eq] at hb
    have := hh e (by simpa using he)
    rw [hb.1] at this
    rw [← hb.2, h.has]
    simpa using this
  · intro hh e he
    cases hb : Region.binds .any e with
    | false => rfl
    | true =>
      simp only [Bool.not_true, Bool.false_or]
      rw [← h.has]
      refine land_sub hh _ ?_
      rw [bit_maskL, bit_zero, Bool.false_or, List.any_eq_true]
      exact ⟨e, by simpa using he, by simp [hb]⟩

theorem mem_ready' {n : Nat} {ops : Array Oper} {listed : Array Bool} {L : Nat} (h : Same n listed L) (hn : ops.size = n) {i : Nat} {o : Oper} (ho : ops[i]? = some o) :
    (!listed.getD i true && ((ops[i]?).map (·.after.all fun e => !Region.binds .any e || listed.getD e.on false)).getD false) = (!bit L i && Nat.beq (Nat.land (rowOf ops o).aft L) (rowOf ops o).aft) := by
  have hi : i < n := hn ▸ (Array.getElem?_eq_some_iff.1 ho).1
  rw [ho, h.lt hi]
  simp only [Option.map_some, Option.getD_some, after_ok h o]
  rfl

theorem ready_eq {n : Nat} {ops : Array Oper} {listed : Array Bool} {L : Nat} (h : Same n listed L) (hn : ops.size = n) : Region.ready .any ops listed = readyF (ops.toList.map (rowOf ops)) L 0 := by
  have key : ∀ (l : List Oper) (k : Nat), (∀ j o, l[j]? = some o → ops[k + j]? = some o) → (List.range' k l.length).filter (fun i => !listed.getD i true && ((ops[i]?).map (·.after.all fun e => !Region.binds .any e || listed.getD e.on false)).getD false) = readyF (l.map (rowOf ops)) L k := by
    intro l
    induction l with
    | nil => intro k _; rfl
    | cons o r ih =>
      intro k hk
      have ho : ops[k]? = some o := by simpa using hk 0 o rfl
      have hr := ih (k + 1) (fun j o' hj => by have := hk (j + 1) o' (by simpa using hj); rwa [show k + (j + 1) = k + 1 + j by omega] at this)
      simp only [List.length_cons, List.range'_succ, List.filter_cons, List.map_cons, readyF, mem_ready' h hn ho]
      cases hb : (!bit L k && Nat.beq (Nat.land (rowOf ops o).aft L) (rowOf ops o).aft) <;> simp only [hr, if_true, Bool.false_eq_true, if_false]
  have := key ops.toList 0 (fun j o hj => by simpa using hj)
  rw [← this]
  unfold Region.ready
  rw [List.range_eq_range']
  simp

theorem free_of {n : Nat} {ops : Array Oper} {listed : Array Bool} {L : Nat} (h : Same n listed L) (hn : ops.size = n) {i : Nat} {o : Oper} (ho : ops[i]? = some o) (hf : freeF (rowOf ops o) L i (ops.toList.map (rowOf ops)) 0 = true) : Region.free .any ops listed i = true := by
  have key : ∀ (l : List Oper) (k : Nat), freeF (rowOf ops o) L i (l.map (rowOf ops)) k = true → ∀ j oj, l[j]? = some oj → (Nat.beq (k + j) i || bit L (k + j) || bit (rowOf ops oj).aft i || (Nat.beq (Nat.land (rowOf ops o).dst (rowOf ops oj).looks) 0 && Nat.beq (Nat.land (rowOf ops o).dst (rowOf ops oj).dst) 0 && Nat.beq (Nat.land (rowOf ops oj).dst (rowOf ops o).looks) 0)) = true := by
    intro l
    induction l with
    | nil => intro k _ j oj hj; simp at hj
    | cons x r ih =>
      intro k hk j oj hj
      simp only [List.map_cons, freeF, Bool.and_eq_true] at hk
      cases j with
      | zero =>
        simp only [List.getElem?_cons_zero, Option.some.injEq] at hj
        subst hj
        exact hk.1
      | succ j =>
        simp only [List.getElem?_cons_succ] at hj
        have := ih (k + 1) hk.2 j oj hj
        rwa [show k + (j + 1) = k + 1 + j by omega]
  unfold Region.free
  rw [ho]
  simp only [List.all_eq_true, List.mem_range]
  intro j hj
  have hoj : ops[j]? = some ops[j] := Array.getElem?_eq_getElem hj
  have := key ops.toList 0 hf j ops[j] (by simp)
  simp only [Nat.zero_add, Bool.or_eq_true, Nat.beq_eq] at this
  rw [hoj, h.lt (hn ▸ hj)]
  simp only [Bool.or_eq_true, beq_iff_eq]
  rcases this with ((h1 | h1) | h1) | h1
  · exact .inl (.inl h1)
  · exact .inl (.inr h1)
  · refine .inr (.inl ?_)
    simp only [rowOf, bit_maskL, bit_zero, Bool.false_or] at h1
    rw [List.any_eq_true] at h1
    obtain ⟨e, he, hb⟩ := h1
    exact Array.any_eq_true'.2 ⟨e, by simpa using he, hb⟩
  · refine .inr (.inr ?_)
    simp only [Bool.and_eq_true] at h1
    obtain ⟨⟨a1, a2⟩, a3⟩ := h1
    unfold Oper.apart
    rw [Bool.and_eq_true]
    have one : ∀ d, bit (Nat.shiftLeft 1 d) d = true := fun d => by
      have := bit_lor 0 d d
      rw [bit_zero] at this
      simp only [Bool.false_or, decide_true] at this
      have e : Nat.lor 0 (Nat.shiftLeft 1 d) = Nat.shiftLeft 1 d := by show 0 ||| _ = _; simp
      rwa [e] at this
    constructor
    · cases hd : o.dst with
      | none => rfl
      | some d =>
        simp only [rowOf, hd] at a1 a2
        have b1 := land_apart a1 d (one d)
        rw [bit_natsL, bit_zero, Bool.false_or] at b1
        simp only [b1, Bool.not_false, Bool.true_and]
        simp only [bne_iff_ne, ne_eq]
        intro e
        rw [e] at a2
        have b2 := land_apart a2 d (one d)
        rw [one d] at b2
        cases b2
    · cases hd : (ops[j]).dst with
      | none => rfl
      | some d =>
        simp only [rowOf, hd] at a3
        have b1 := land_apart a3 d (one d)
        rw [bit_natsL, bit_zero, Bool.false_or] at b1
        simp only [b1, Bool.not_false]

theorem planF_ok {ops : Array Oper} {n : Nat} (hn : ops.size = n) : ∀ (p : Plan) (f : Nat) (listed : Array Bool) (L : Nat) (top : Bool), Same n listed L → planF (ops.toList.map (rowOf ops)) p f L top = true → planOk ops p f listed top = true := by
  intro p
  induction p with
  | done =>
    intro f listed L top hs h
    simp only [planF] at h
    simp only [planOk, ready_eq hs hn]
    split at h
    · rename_i e; rw [e]; rfl
    · cases h
  | stop => intro f listed L top hs h; simp [planF] at h
  | swap p ih =>
    intro f listed L top hs h
    simp only [planF, Bool.and_eq_true] at h
    simp only [planOk, Bool.and_eq_true]
    exact ⟨h.1, ih f listed L true hs h.2⟩
  | fuz l =>
    intro f listed L top hs h
    simp only [planF, Bool.and_eq_true] at h
    simp only [planOk, Bool.and_eq_true, ready_eq hs hn]
    refine ⟨?_, h.2⟩
    have h1 := h.1
    split at h1
    · rename_i e; rw [e]; rfl
    · cases h1
  | take i p ih =>
    intro f listed L top hs h
    cases f with
    | zero => simp [planF] at h
    | succ f =>
      simp only [planF, Bool.and_eq_true] at h
      obtain ⟨h1, h2⟩ := h
      unfold takeF at h1
      split at h1
      · cases h1
      · rename_i x hx
        rw [nth_eq, List.getElem?_map, Option.map_eq_some_iff] at hx
        obtain ⟨o, ho, rfl⟩ := hx
        have ho' : ops[i]? = some o := by simpa using ho
        have hi : i < n := hn ▸ (Array.getElem?_eq_some_iff.1 ho').1
        rw [Bool.and_eq_true] at h1
        simp only [planOk, Bool.and_eq_true]
        refine ⟨⟨?_, free_of hs hn ho' h1.2⟩, ih f _ _ true (hs.set hi) h2⟩
        have hr : i ∈ Region.ready .any ops listed := by
          unfold Region.ready
          rw [List.mem_filter]
          exact ⟨List.mem_range.2 (hn ▸ hi), by rw [mem_ready' hs hn ho']; exact h1.1⟩
        simpa using hr
  | alt i p q ihp ihq =>
    intro f listed L top hs h
    cases f with
    | zero => simp [planF] at h
    | succ f =>
      simp only [planF, Bool.and_eq_true, Bool.or_eq_true] at h
      obtain ⟨⟨⟨h0, h1⟩, h2⟩, h3⟩ := h
      have hi : i < n := by
        split at h0
        · rename_i x hx
          rw [nth_eq, List.getElem?_map, Option.map_eq_some_iff] at hx
          obtain ⟨o, ho, _⟩ := hx
          exact hn ▸ (Array.getElem?_eq_some_iff.1 (show ops[i]? = some o by simpa using ho)).1
        · cases h0
      simp only [planOk, Bool.and_eq_true, Bool.or_eq_true, beq_iff_eq, ready_eq hs hn]
      exact ⟨⟨h1.imp (fun x => by simpa using x) natsEq_eq, ihp f _ _ true (hs.set hi) h2⟩, h3.imp id (fun ⟨a, b⟩ => ⟨a, ihq (f + 1) _ _ false hs b⟩)⟩

theorem planFast_ok {ops : Array Oper} {p : Plan} (h : planFast ops p = true) : planOk ops p ops.size (Array.replicate ops.size false) true = true :=
  planF_ok rfl p _ _ 0 true ⟨by simp, fun j => by
    rw [bit_zero]
    by_cases hj : j < ops.size <;> simp [Array.getD, hj]⟩ h
end Go.Proofs.YtmihblocomnfjaaDoor.Sy
