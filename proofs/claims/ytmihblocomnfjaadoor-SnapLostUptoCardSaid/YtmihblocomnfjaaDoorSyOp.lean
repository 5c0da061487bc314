/- A walk that the kernel carries out: the operations whose own run parts on a number that need not be known (a division, an index, a choice, an equation between structs), and one operation whole. -/
import Derived.Test.YtmihblocomnfjaaDoorSy
set_option linter.unusedSimpArgs false
set_option linter.unusedVariables false
namespace Go.Proofs.YtmihblocomnfjaaDoor.Sy
open Go

def sadd : Nat → Nat → Nat
  | 0, n => n
  | m + 1, n => m + 1 + n
theorem sadd_eq (m n : Nat) : sadd m n = m + n := by cases m <;> simp [sadd]
def smul (n : Nat) : Nat → Nat
  | 1 => n
  | s => n * s
theorem smul_eq (n s : Nat) : smul n s = n * s := by
  unfold smul; split <;> simp

section
variable (P : Program)
def partP (t : TypeId) (cs : Array Value) (off : Nat) : Option Value :=
  match P.underlying t with
  | some (.struct _) | some (.array _ _) => match P.info? t with
    | some i => some (.agg (cs.extract off (off + i.size)))
    | none => none
  | some _ => cs[off]?
  | none => none

def eqFs (rec : TypeId → Value → Value → Option Bool) (xs ys : Array Value) : List Field → Option Bool
  | [] => some true
  | f :: fs => match decEq f.name "_" with
    | .isTrue _ => eqFs rec xs ys fs
    | .isFalse _ => match partP P f.type xs f.offset, partP P f.type ys f.offset with
      | some a, some b => match rec f.type a b with
        | some r => match eqFs rec xs ys fs with
          | some q => some (r && q)
          | none => none
        | none => none
      | _, _ => none

def eqV : Nat → TypeId → Value → Value → Option Bool
  | 0, _, _, _ => none
  | d + 1, t, x, y => match P.underlying t with
    | some .bool => (match x, y with
      | .bool a, .bool b => some (a == b)
      | _, _ => none)
    | some (.int k') => (match x, y with
      | .int k a, .int k2 b => (match decEq k k' with
        | .isTrue _ => (match decEq k2 k' with
          | .isTrue _ => some (a == b)
          | .isFalse _ => none)
        | .isFalse _ => none)
      | _, _ => none)
    | some (.struct fs) => (match x, y with
      | .agg xs, .agg ys => (match P.stoodInHeld t with
        | false => eqFs P (eqV d) xs ys fs.toList
        | true => none)
      | _, _ => none)
    | _ => none

theorem run_partP {t : TypeId} {cs : Array Value} {off : Nat} {v : Value} (h : partP P t cs off = some v) (w : World) : (part t cs off).run P w = .ok v w := by
  unfold partP at h
  unfold part isAgg
  split at h
  · rename_i fs hu
    split at h
    · rename_i i hi
      simp only [Option.some.injEq] at h
      subst h
      simp [run_underlying hu, sizeOf, typeInfo, hi, Result.andThen]
    · cases h
  · rename_i n e hu
    split at h
    · rename_i i hi
      simp only [Option.some.injEq] at h
      subst h
      simp [run_underlying hu, sizeOf, typeInfo, hi, Result.andThen]
    · cases h
  · rename_i d hs ha hu
    cases d <;> first | (simp [run_underlying hu, h, Result.andThen]; done) | exact absurd rfl (hs _) | exact absurd rfl (ha _ _)
  · cases h

theorem run_eqV : ∀ (d : Nat) (t : TypeId) (x y : Value) (b : Bool), eqV P d t x y = some b → ∀ (m : Nat), d ≤ m → ∀ w, (Op.equalIn m t x y).run P w = .ok b w := by
  intro d
  induction d with
  | zero => intro t x y b h; simp [eqV] at h
  | succ d ih =>
    intro t x y b h m hm w
    obtain ⟨m, rfl⟩ : ∃ k, m = k + 1 := ⟨m - 1, by omega⟩
    simp only [eqV] at h
    split at h
    · rename_i hu
      split at h
      · simp only [Option.some.injEq] at h; subst h; exact run_equalIn_bool' w _ _ _ _ hu
      · cases h
    · rename_i k' hu
      split at h
      · split at h
        · split at h
          · rename_i h1 _ _ h2 _
            subst h1; subst h2
            simp only [Option.some.injEq] at h; subst h; exact run_equalIn_int w _ _ _ _ _ _ hu
          · cases h
        · cases h
      · cases h
    · rename_i fs hu
      split at h
      · rename_i xs ys
        split at h
        · rename_i hp
          have hf : P.fieldsOf t = fs := by simp [Program.fieldsOf, hu]
          rw [run_equalIn_struct w m t xs ys (by rw [hf]; exact hu) hp, hf]
          generalize fs.toList = l at h
          clear hu hf
          induction l generalizing b w with
          | nil => simp only [eqFs, Option.some.injEq] at h; subst h; simp [Op.eqFields]
          | cons f l ihl =>
            simp only [eqFs] at h
            split at h
            · rename_i hn _
              simp only [Op.eqFields, hn, ne_eq, not_true_eq_false, if_false]
              exact ihl _ _ h
            · rename_i hn _
              split at h
              · rename_i a c ha hc
                split at h
                · rename_i r hr
                  split at h
                  · rename_i q hq
                    simp only [Option.some.injEq] at h
                    subst h
                    simp only [Op.eqFields, ne_eq, hn, not_false_eq_true, if_true, Sem.run_bind, run_partP P ha, run_partP P hc, Result.andThen_ok, ih _ _ _ _ hr m (by omega)]
                    cases r
                    · simp
                    · simpa using ihl q w hq
                  · cases h
                · cases h
              · cases h
        · cases h
      · cases h
    · cases h

theorem blt_lt (a b : Nat) : Nat.blt a b = true ↔ a < b := by
  show Nat.ble (a + 1) b = true ↔ _
  rw [Nat.ble_eq]; rfl

/-- What an operation of these comes to: no such one; not to be run here; a value. -/
inductive Sp where
  | no
  | bad
  | yes (v : Value) (st : St)

def special (S : Strat) (eval : Operand → Value) (o : Oper) (st : St) : Sp :=
  match o.op with
  | .pick c a b => match eval c with
    | .bool x => match st.guess S x with
      | some (g, st') => .yes (match g with | true => eval a | false => eval b) st'
      | none => .bad
    | _ => .bad
  | .binOp op t x y _ => match op with
    | .quo => match eval x, eval y with
      | .int k a, .int k' b => match decEq k k' with
        | .isTrue _ => match st.guess S (b == 0) with
          | some (false, st') => .yes (.int k (k.wrap (a.tdiv b))) st'
          | _ => .bad
        | .isFalse _ => .bad
      | _, _ => .bad
    | .rem => match eval x, eval y with
      | .int k a, .int k' b => match decEq k k' with
        | .isTrue _ => match st.guess S (b == 0) with
          | some (false, st') => .yes (.int k (a.tmod b)) st'
          | _ => .bad
        | .isFalse _ => .bad
      | _, _ => .bad
    | .eql => match eval x, eval y with
      | .agg xs, .agg ys => match P.eqGuardType P.depth t, eqV P 10 t (.agg xs) (.agg ys) with
        | false, some r => .yes (.bool r) st
        | _, _ => .bad
      | _, _ => .no
    | .neq => match eval x, eval y with
      | .agg xs, .agg ys => match P.eqGuardType P.depth t, eqV P 10 t (.agg xs) (.agg ys) with
        | false, some r => .yes (.bool (!r)) st
        | _, _ => .bad
      | _, _ => .no
    | _ => .no
  | .indexAddr t x ix => match eval ix with
    | .int _ i => match P.underlying t, eval x with
      | some (.slice e), .slice (some ⟨b, off, none⟩) len _ => match P.info? e, st.guess S (decide (0 ≤ i) && decide (i < (len : Int))) with
        | some inf, some (true, st') => .yes (.pointer (some ⟨b, sadd off (smul i.toNat inf.size), none⟩)) st'
        | _, _ => .bad
      | some (.array len e), .pointer (some ⟨b, off, none⟩) => match P.info? e, st.guess S (decide (0 ≤ i) && decide (i < (len : Int))) with
        | some inf, some (true, st') => .yes (.pointer (some ⟨b, sadd off (smul i.toNat inf.size), none⟩)) st'
        | _, _ => .bad
      | _, _ => .bad
    | _ => .bad
  | _ => .no

/-- Which operations go by 'special'. -/
def isSp (eval : Operand → Value) (o : Oper) : Bool :=
  match o.op with
  | .pick .. => true
  | .binOp op _ x y _ => match op with
    | .quo => match eval x with | .int .. => true | _ => false
    | .rem => match eval x with | .int .. => true | _ => false
    | .eql => match eval x, eval y with
      | .agg _, .agg _ => true
      | _, _ => false
    | .neq => match eval x, eval y with
      | .agg _, .agg _ => true
      | _, _ => false
    | _ => false
  | .indexAddr .. => true
  | _ => false

theorem add_eq (b off n : Nat) : (⟨b, off, none⟩ : Addr).add n = ⟨b, off + n, none⟩ := by
  unfold Addr.add
  split
  · rename_i h; simp [h]
  · rfl

theorem special_sound {S : Strat} {eval : Operand → Value} {o : Oper} {st st' : St} {v : Value} (h : special P S eval o st = .yes v st') (hk : st'.Ok) :
    (∀ w, (execOp eval o).run P w = .ok (.value v) w) ∧ st'.cells = st.cells ∧ st'.shapes = st.shapes ∧ st.Ok := by
  obtain ⟨dst, op, type, pos, after, guard⟩ := o
  unfold special at h
  split at h
  · rename_i c a b heq
    simp only at heq; subst heq
    split at h
    · rename_i x hx
      split at h
      · rename_i g s1 hg
        simp only [Sp.yes.injEq] at h
        obtain ⟨rfl, rfl⟩ := h
        obtain ⟨h1, h2, h3, h4⟩ := guess_ok hg hk
        refine ⟨fun w => ?_, h3, h4, h1⟩
        subst h2
        cases x <;> simp [execOp, asBool, hx, Result.andThen]
      · cases h
    · cases h
  · rename_i op t x y yt heq
    simp only at heq; subst heq
    split at h
    · split at h
      · rename_i k a k' b hx hy
        split at h
        · rename_i hkk _
          subst hkk
          split at h
          · rename_i s1 hg
            simp only [Sp.yes.injEq] at h
            obtain ⟨rfl, rfl⟩ := h
            obtain ⟨h1, h2, h3, h4⟩ := guess_ok hg hk
            refine ⟨fun w => ?_, h3, h4, h1⟩
            have hb : ¬ b = 0 := by simpa using h2
            simp [execOp, hx, hy, eqGuard, binOp, Op.intDiv, hb, Result.andThen]
          · cases h
        · cases h
      · cases h
    · split at h
      · rename_i k a k' b hx hy
        split at h
        · rename_i hkk _
          subst hkk
          split at h
          · rename_i s1 hg
            simp only [Sp.yes.injEq] at h
            obtain ⟨rfl, rfl⟩ := h
            obtain ⟨h1, h2, h3, h4⟩ := guess_ok hg hk
            refine ⟨fun w => ?_, h3, h4, h1⟩
            have hb : ¬ b = 0 := by simpa using h2
            simp [execOp, hx, hy, eqGuard, binOp, Op.intDiv, hb, Result.andThen]
          · cases h
        · cases h
      · cases h
    · split at h
      · rename_i xs ys hx hy
        split at h
        · rename_i r hm hr
          simp only [Sp.yes.injEq] at h
          obtain ⟨rfl, rfl⟩ := h
          refine ⟨fun w => ?_, rfl, rfl, hk⟩
          simp [execOp, hx, hy, run_eqGuard_agg w _ _ _ _ _ _ hm, run_eql_struct, run_eqV P 10 t _ _ r hr 10000 (by omega), Result.andThen]
        · cases h
      · cases h
    · split at h
      · rename_i xs ys hx hy
        split at h
        · rename_i r hm hr
          simp only [Sp.yes.injEq] at h
          obtain ⟨rfl, rfl⟩ := h
          refine ⟨fun w => ?_, rfl, rfl, hk⟩
          simp [execOp, hx, hy, run_eqGuard_agg w _ _ _ _ _ _ hm, run_neq_struct, run_eqV P 10 t _ _ r hr 10000 (by omega), Result.andThen]
        · cases h
      · cases h
    · cases h
  · rename_i t x ix heq
    simp only at heq; subst heq
    split at h
    · rename_i k i hix
      split at h
      · rename_i e b off len cap hu hx
        split at h
        · rename_i inf s1 hin hg
          simp only [Sp.yes.injEq] at h
          obtain ⟨rfl, rfl⟩ := h
          obtain ⟨h1, h2, h3, h4⟩ := guess_ok hg hk
          refine ⟨fun w => ?_, h3, h4, h1⟩
          have hb : 0 ≤ i ∧ i < (len : Int) := by simpa using h2
          simp [execOp, hix, hx, Instr.indexAt, asIntOf, run_underlying hu, hb, sizeOf, typeInfo, hin, Result.andThen, add_eq, sadd_eq, smul_eq]
        · cases h
      · rename_i len e b off hu hx
        split at h
        · rename_i inf s1 hin hg
          simp only [Sp.yes.injEq] at h
          obtain ⟨rfl, rfl⟩ := h
          obtain ⟨h1, h2, h3, h4⟩ := guess_ok hg hk
          refine ⟨fun w => ?_, h3, h4, h1⟩
          have hb : 0 ≤ i ∧ i < (len : Int) := by simpa using h2
          simp [execOp, hix, hx, Instr.indexAt, Instr.sureAddr, asIntOf, run_underlying hu, hb, sizeOf, typeInfo, hin, Result.andThen, add_eq, sadd_eq, smul_eq]
        · cases h
      · cases h
    · cases h
  · cases h
end
end Go.Proofs.YtmihblocomnfjaaDoor.Sy
