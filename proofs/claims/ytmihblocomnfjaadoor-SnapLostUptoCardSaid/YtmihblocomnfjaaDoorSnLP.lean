/- Registers: numbers of a word; runs of operations, as numbers. -/
import Derived.Test.YtmihblocomnfjaaDoorSnU
set_option linter.unusedSimpArgs false
set_option linter.unusedVariables false
namespace Go.Proofs.YtmihblocomnfjaaDoor.Sn
open Go Sy Close
set_option maxRecDepth 100000
theorem wrap32 (x : Int) : IntKind.u32.wrap x = x % 4294967296 := by simp [IntKind.wrap, IntKind.signed, IntKind.bits]
theorem wrap64 (x : Int) : IntKind.u64.wrap x = x % 18446744073709551616 := by simp [IntKind.wrap, IntKind.signed, IntKind.bits]
theorem pow32 : (2 : Int) ^ min (Int.toNat 32) (IntKind.bits .u64) = 4294967296 := by decide
theorem wd_eq {x v : Int} (h0 : 0 ≤ v) (h1 : v < 4294967296) : wd x v = IntKind.u32.wrap (num x + 1) * 4294967296 + v := by
  unfold wd
  obtain ⟨k, hk⟩ : ∃ k' : Nat, IntKind.u32.wrap (num x + 1) = k' := ⟨(IntKind.u32.wrap (num x + 1)).toNat, by rw [wrap32]; omega⟩
  have hk1 : (k : Int) < 4294967296 := by rw [← hk, wrap32]; omega
  obtain ⟨b, rfl⟩ : ∃ b' : Nat, v = b' := ⟨v.toNat, by omega⟩
  rw [hk]
  have e : IntKind.u64.wrap (IntKind.u64.wrap (k : Int) * 2 ^ min (Int.toNat 32) (IntKind.bits .u64)) = ((k * 4294967296 : Nat) : Int) := by
    rw [pow32, wrap64, wrap64]
    omega
  have e2 : IntKind.u64.wrap (b : Int) = b := by rw [wrap64]; omega
  have h64 : IntKind.bits .u64 = 64 := rfl
  rw [e, e2, h64, BitVec.ofInt_natCast, BitVec.ofInt_natCast, BitVec.toNat_or, BitVec.toNat_ofNat, BitVec.toNat_ofNat, Nat.mod_eq_of_lt (by omega), Nat.mod_eq_of_lt (by omega)]
  have h := Nat.shiftLeft_add_eq_or_of_lt (i := 32) (b := b) (by omega) k
  rw [Nat.shiftLeft_eq] at h
  rw [show k * 4294967296 = k * 2 ^ 32 by rfl, ← h, wrap64]
  omega
theorem num_eq (x : Int) : num x = x / 4294967296 % 4294967296 := by
  unfold num
  rw [pow32, wrap32, Int.fdiv_eq_ediv_of_nonneg _ (by omega)]
theorem vl_eq (x : Int) : vl x = x % 4294967296 := by
  unfold vl
  rw [wrap32]
theorem num_wd {x v : Int} (h0 : 0 ≤ v) (h1 : v < 4294967296) : num (wd x v) = IntKind.u32.wrap (num x + 1) := by
  rw [wd_eq h0 h1, num_eq, wrap32]
  omega
theorem vl_wd {x v : Int} (h0 : 0 ≤ v) (h1 : v < 4294967296) : vl (wd x v) = v := by
  rw [wd_eq h0 h1, vl_eq, wrap32]
  omega
theorem nxt_load {n : Nat} {xs : List Int} {d : SD} (hk : ¬ d.k = 1) : (nxt n xs d).1 = xs ∧ ∃ cell x, (nxt n xs d).2.2 = did 1 cell x x true := by
  unfold nxt
  rw [if_neg hk]
  split
  · exact ⟨rfl, _, _, rfl⟩
  · simp only
    split <;> exact ⟨rfl, _, _, rfl⟩
/-- The next turn of the operation with a number. -/
def turn (n : Nat) (st : List Int × List SD) (k : Nat) : List Int × List SD := match st.2[k]? with
  | some d => if d.over = true then st else ((nxt n st.1 d).1, st.2.set k (nxt n st.1 d).2.1)
  | none => st
def turnI (n : Nat) (st : List Int × List SD) (k : Int) : List Int × List SD := if 0 ≤ k then turn n st k.toNat else st
def run (n : Nat) (st : List Int × List SD) (l : List Int) : List Int × List SD := l.foldl (turnI n) st
theorem run_snoc (n : Nat) (st : List Int × List SD) (l : List Int) (k : Int) : run n st (l ++ [k]) = turnI n (run n st l) k := by simp [run]
theorem nxt_key (n : Nat) (xs : List Int) (d : SD) : (nxt n xs d).2.1.k = d.k ∧ (nxt n xs d).2.1.r = d.r ∧ (nxt n xs d).2.1.v = d.v ∧ (nxt n xs d).2.1.tr = d.tr := by
  unfold nxt
  split
  · split
    · split <;> exact ⟨rfl, rfl, rfl, rfl⟩
    · exact ⟨rfl, rfl, rfl, rfl⟩
  · split
    · exact ⟨rfl, rfl, rfl, rfl⟩
    · simp only
      split <;> exact ⟨rfl, rfl, rfl, rfl⟩
theorem turn_len (n : Nat) (st : List Int × List SD) (k : Nat) : (turn n st k).2.length = st.2.length := by
  unfold turn
  split
  · split <;> simp
  · rfl
theorem turnI_len (n : Nat) (st : List Int × List SD) (k : Int) : (turnI n st k).2.length = st.2.length := by
  unfold turnI
  split
  · exact turn_len ..
  · rfl
theorem run_len (n : Nat) : ∀ (l : List Int) (st : List Int × List SD), (run n st l).2.length = st.2.length
  | [], _ => rfl
  | k :: l, st => by
    show (run n (turnI n st k) l).2.length = _
    rw [run_len n l, turnI_len]
/-- A put with a number has ended. -/
def Put (i : Nat) (st : List Int × List SD) : Prop := ∀ d, st.2[i]? = some d → d.k = 1 → d.over = true
theorem turn_keep {n : Nat} {st : List Int × List SD} {k i : Nat} (h : Put i st) : Put i (turn n st k) := by
  unfold turn
  split
  · rename_i d hd
    split
    · exact h
    · rename_i ho
      intro d' hd' hk'
      by_cases e : k = i
      · subst e
        simp only at hd'
        rw [List.getElem?_set_self (List.getElem?_eq_some_iff.1 hd).1] at hd'
        cases hd'
        rw [(nxt_key n st.1 d).1] at hk'
        exact absurd (h d hd hk') ho
      · simp only at hd'
        rw [List.getElem?_set_ne e] at hd'
        exact h d' hd' hk'
  · exact h
theorem turnI_keep {n : Nat} {st : List Int × List SD} {k : Int} {i : Nat} (h : Put i st) : Put i (turnI n st k) := by
  unfold turnI
  split
  · exact turn_keep h
  · exact h
theorem run_keep {n i : Nat} : ∀ (l : List Int) (st : List Int × List SD), Put i st → Put i (run n st l)
  | [], _, h => h
  | k :: l, st, h => run_keep l (turnI n st k) (turnI_keep h)
def left (xs : List Int) (d : SD) : Nat := if d.over = true then 0 else if d.k ≠ 1 then 0 else if d.ld = true then (if seeAt xs d.r = d.saw then 1 else 3) else 2
theorem left_le (xs : List Int) (d : SD) : left xs d ≤ 3 := by
  unfold left
  split
  · omega
  · split
    · omega
    · split
      · split <;> omega
      · omega
theorem left_zero {xs : List Int} {d : SD} (h : left xs d = 0) (hk : d.k = 1) : d.over = true := by
  unfold left at h
  split at h
  · assumption
  · rw [if_neg (by simp [hk])] at h
    split at h
    · split at h <;> omega
    · omega
theorem left_step {n : Nat} {xs : List Int} {d : SD} (ho : ¬ d.over = true) (hk : d.k = 1) : left (nxt n xs d).1 (nxt n xs d).2.1 + 1 ≤ left xs d := by
  unfold nxt
  rw [if_pos hk]
  by_cases hl : d.ld = true
  · rw [if_pos hl]
    by_cases hs : seeAt xs d.r = d.saw
    · rw [if_pos hs]
      simp [left, ho, hk, hl, hs]
    · rw [if_neg hs]
      simp [left, ho, hk, hl, hs]
  · rw [if_neg hl]
    simp [left, ho, hk, hl]
def leftI (st : List Int × List SD) (i : Nat) : Nat := match st.2[i]? with
  | some d => left st.1 d
  | none => 0
theorem leftI_turn (n : Nat) (st : List Int × List SD) (i : Nat) : leftI (turn n st i) i ≤ leftI st i - 1 := by
  unfold leftI turn
  cases hd : st.2[i]? with
  | none => simp only [hd]; omega
  | some d =>
    simp only
    by_cases ho : d.over = true
    · rw [if_pos ho, hd]
      simp [left, ho]
    · rw [if_neg ho]
      simp only
      rw [List.getElem?_set_self (List.getElem?_eq_some_iff.1 hd).1]
      simp only
      by_cases hk : d.k = 1
      · have := left_step (n := n) (xs := st.1) ho hk
        omega
      · have : left (nxt n st.1 d).1 (nxt n st.1 d).2.1 = 0 := by
          unfold left
          split
          · rfl
          · rw [if_pos (by rw [(nxt_key n st.1 d).1]; exact hk)]
        omega
theorem run_rep (n : Nat) (i : Nat) : ∀ (m : Nat) (st : List Int × List SD), leftI (run n st (List.replicate m (i : Int))) i ≤ leftI st i - m
  | 0, st => Nat.le_refl _
  | m + 1, st => by
    rw [List.replicate_succ]
    show leftI (run n (turnI n st i) (List.replicate m (i : Int))) i ≤ _
    have h1 := run_rep n i m (turnI n st i)
    have h2 : turnI n st i = turn n st i := by simp [turnI]
    rw [h2] at h1 ⊢
    have h3 := leftI_turn n st i
    omega
theorem run_append (n : Nat) (st : List Int × List SD) (a b : List Int) : run n st (a ++ b) = run n (run n st a) b := by simp [run]
/-- Each one's last turns. -/
def tail (f : Nat → Nat) : Nat → List Int
  | 0 => []
  | m + 1 => tail f m ++ List.replicate (f m) (m : Int)
theorem run_tail {n : Nat} {st : List Int × List SD} {f : Nat → Nat} : ∀ m, (∀ i, i < m → 3 ≤ f i) → ∀ i, i < m → Put i (run n st (tail f m))
  | 0, _ => fun i h => by omega
  | m + 1, hf => fun i hi => by
    rw [tail, run_append]
    by_cases e : i = m
    · subst e
      intro d hd hk
      have h1 := run_rep n i (f i) (run n st (tail f i))
      have h2 := hf i hi
      have h3 : leftI (run n st (tail f i)) i ≤ 3 := by
        unfold leftI
        split
        · exact left_le ..
        · omega
      have h4 : leftI (run n (run n st (tail f i)) (List.replicate (f i) (i : Int))) i = 0 := by omega
      unfold leftI at h4
      rw [hd] at h4
      exact left_zero h4 hk
    · exact run_keep _ _ (run_tail m (fun j hj => hf j (by omega)) i (by omega))
theorem run_all {n : Nat} {st : List Int × List SD} {l : List Int} {f : Nat → Nat} (m : Nat) (hf : ∀ i, i < m → 3 ≤ f i) : ∀ i, i < m → Put i (run n st (l ++ tail f m)) := by
  rw [run_append]
  exact run_tail m hf
end Go.Proofs.YtmihblocomnfjaaDoor.Sn
