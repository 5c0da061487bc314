/- Sharded counters as numbers: what all cells come to. -/
import Derived.Test.YtfdgggikjnoghaaDoorShSim
namespace Go.Proofs.YtfdgggikjnoghaaDoor.Sk
open Go
def tot : List Int → Int
  | [] => 0
  | x :: r => x + tot r
theorem tot_set : ∀ {xs : List Int} {i : Nat} {y : Int}, i < xs.length → tot (xs.set i y) = tot xs - xs.getD i 0 + y
  | x :: r, 0, y, _ => by simp [tot]; omega
  | x :: r, i + 1, y, h => by
    have := tot_set (xs := r) (i := i) (y := y) (by simpa using h)
    simp only [List.set_cons_succ, tot, List.getD_cons_succ, this]; omega
theorem tot_rep : ∀ n : Nat, tot (List.replicate n 0) = 0
  | 0 => rfl
  | n + 1 => by simp [List.replicate_succ, tot, tot_rep n]
theorem tot_drop {xs : List Int} {i : Nat} (h : i < xs.length) : tot (xs.drop i) = xs.getD i 0 + tot (xs.drop (i + 1)) := by
  rw [List.drop_eq_getElem_cons h, tot, List.getD_eq_getElem?_getD, List.getElem?_eq_getElem h]; rfl
/-- What an operation under way has brought so far. -/
def gain (r : RU) : Int := if r.k = 1 then (if r.at_ = 0 then 0 else r.b) else if r.k = 4 then - r.sum else 0
def gsum : List RU → Int
  | [] => 0
  | r :: l => gain r + gsum l
theorem gsum_set : ∀ {us : List RU} {i : Nat} {r r' : RU}, us[i]? = some r → gsum (us.set i r') = gsum us - gain r + gain r'
  | x :: us, 0, r, r', h => by
    simp only [List.getElem?_cons_zero, Option.some.injEq] at h
    subst h
    simp [gsum]; omega
  | x :: us, i + 1, r, r', h => by
    have := gsum_set (us := us) (i := i) (r := r) (r' := r') (by simpa using h)
    simp only [List.set_cons_succ, gsum, this]; omega
theorem gsum_new : ∀ {us : List RU}, (∀ r ∈ us, r.at_ = 0 ∧ r.sum = 0) → gsum us = 0
  | [], _ => rfl
  | r :: us, h => by
    obtain ⟨h1, h2⟩ := h r (List.mem_cons_self ..)
    have := gsum_new (us := us) (fun r hr => h r (List.mem_cons_of_mem _ hr))
    simp [gsum, gain, h1, h2, this]
/-- The cells have what was brought. -/
def Bal (xs : List Int) (us : List RU) : Prop := (tot xs - gsum us) % 18446744073709551616 = 0
theorem bal_step {n : Nat} {xs : List Int} {us : List RU} {q : Nat} {r : RU} (hn : 0 < n) (hm : n ≤ 65536) (hx : xs.length = n) (hg : RGood n r) (he : ended n r = false) (hu : InU xs) (hr : us[q]? = some r) (hb : Bal xs us) : Bal (step xs (prog n r)).xs (us.set q (rnext n xs r)) := by
  obtain ⟨z1, _, _, _, _, _, z7, z8⟩ := sim hn hm hg he hu
  have hi : (rcell n r.k r.w r.at_).toNat < xs.length := by omega
  have h2 := of_decide_eq_false he
  have h0 := hg.at0
  have hw : IntKind.i64.wrap (r.at_ + 1) = r.at_ + 1 := by
    have := many_pos (n := n) (k := r.k) hn hm
    exact wrap_same (by omega) (by omega)
  unfold Bal at hb ⊢
  rw [z1, putAt, tot_set hi, gsum_set hr]
  rw [show xs.getD (rcell n r.k r.w r.at_).toNat 0 = seeAt xs (rcell n r.k r.w r.at_) from rfl]
  simp only [gain, rnext, hw]
  generalize seeAt xs (rcell n r.k r.w r.at_) = x
  rcases kinds_of hg.right with h | h | h | h
  · have ha : r.at_ = 0 := by
      simp [manyOf, h, isAll] at h2
      omega
    simp [rput, h, ha, w64_eq]
    omega
  · simp [rput, h]
    omega
  · simp [rput, h]
    omega
  · simp [rput, rsum, h, w64_eq]
    omega
def addS : List RU → Int
  | [] => 0
  | r :: l => (if r.k = 1 then r.b else 0) + addS l
def takS : List RU → Int
  | [] => 0
  | r :: l => (if r.k = 4 then r.sum else 0) + takS l
theorem addS_snoc : ∀ {us : List RU} {r : RU}, addS (us ++ [r]) = addS us + (if r.k = 1 then r.b else 0)
  | [], r => by simp [addS]
  | x :: us, r => by simp only [List.cons_append, addS, addS_snoc (us := us)]; omega
theorem takS_snoc : ∀ {us : List RU} {r : RU}, takS (us ++ [r]) = takS us + (if r.k = 4 then r.sum else 0)
  | [], r => by simp [takS]
  | x :: us, r => by simp only [List.cons_append, takS, takS_snoc (us := us)]; omega
theorem gsum_ended {n : Nat} (hn : 0 < n) (hm : n ≤ 65536) : ∀ {us : List RU}, (∀ r ∈ us, RGood n r ∧ ended n r = true) → gsum us = addS us - takS us
  | [], _ => rfl
  | r :: us, h => by
    obtain ⟨h1, h2⟩ := h r (List.mem_cons_self ..)
    have := gsum_ended hn hm (us := us) (fun r hr => h r (List.mem_cons_of_mem _ hr))
    have h3 := of_decide_eq_true h2
    have h4 := (many_pos (n := n) (k := r.k) hn hm).1
    simp only [gsum, addS, takS, this, gain]
    rcases kinds_of h1.right with h | h | h | h <;> simp [h] <;> omega
/-- A sum that is done whole. -/
theorem run_sum : ∀ (f : Nat) (xs : List Int) (u : SU), xs.length ≤ 65536 → u.ak = 1 → u.ab = 0 → u.last + 1 = xs.length → 0 ≤ u.cell → u.cell ≤ u.last + 1 → u.over = decide (u.cell > u.last) → w64 u.sum = u.sum → (u.last + 1 - u.cell).toNat ≤ f →
    (run f xs u).1 = xs ∧ (run f xs u).2.sum = w64 (u.sum + tot (xs.drop u.cell.toNat))
  | 0, xs, u, hm, h1, h2, h3, h4, h5, h6, h7, h8 => by
    have e : u.cell.toNat = xs.length := by omega
    simp only [run, e, List.drop_length, tot, Int.add_zero, true_and, h7]
  | f + 1, xs, u, hm, h1, h2, h3, h4, h5, h6, h7, h8 => by
    cases ho : u.over with
    | true =>
      rw [ho] at h6
      have := of_decide_eq_true h6.symm
      have e : u.cell.toNat = xs.length := by omega
      rw [run_over ho]
      simp only [e, List.drop_length, tot, Int.add_zero, true_and, h7]
    | false =>
      rw [ho] at h6
      have hlt : u.cell ≤ u.last := by have := of_decide_eq_false h6.symm; omega
      have hi : u.cell.toNat < xs.length := by omega
      have hw : IntKind.i64.wrap (u.cell + 1) = u.cell + 1 := wrap_same (by omega) (by omega)
      have exs : (step xs u).xs = xs := by
        simp only [step, putOf, h1, putAt, seeAt]
        simp only [show ¬ ((1 : Int) = 3) by omega, show ¬ ((1 : Int) = 4) by omega, if_false]
        rw [List.getD_eq_getElem?_getD, List.getElem?_eq_getElem hi]
        exact List.set_getElem_self hi
      have es : (step xs u).u.sum = w64 (u.sum + seeAt xs u.cell) := by
        simp only [step, sumOf, sawOf, h1]
        simp
      rw [run_step ho, exs]
      obtain ⟨q1, q2⟩ := run_sum f xs (step xs u).u hm h1 h2 h3 (by simp only [step, hw]; omega) (by simp only [step, hw]; omega) (by simp only [step, hw]) (by rw [es]; exact w64_w64 _) (by simp only [step, hw]; omega)
      refine ⟨q1, ?_⟩
      rw [q2, es, tot_drop hi, show (step xs u).u.cell.toNat = u.cell.toNat + 1 by simp only [step, hw]; omega, show seeAt xs u.cell = xs.getD u.cell.toNat 0 from rfl]
      simp only [w64_eq]
      omega
theorem run_sum3 {n : Nat} {xs : List Int} (hn : 0 < n) (hm : n ≤ 65536) (hx : xs.length = n) : (run n xs (start n 3 0 0)).1 = xs ∧ (run n xs (start n 3 0 0)).2.sum = w64 (tot xs) := by
  have hl : lastOf n 3 0 = (n : Int) - 1 := by
    simp only [lastOf, isOne]
    simp
    exact wrap_same (by omega) (by omega)
  have := run_sum n xs (start n 3 0 0) (by omega) rfl rfl (by simp only [start, hl]; omega) (by simp [start, cellOf, isOne]) (by simp only [start, hl]; simp [cellOf, isOne]) (by simp only [start, hl]; simp [cellOf, isOne]; omega) (by simp only [start]; decide) (by simp only [start, hl]; simp [cellOf, isOne])
  refine ⟨this.1, ?_⟩
  rw [this.2]
  simp [start, cellOf, isOne]
end Go.Proofs.YtfdgggikjnoghaaDoor.Sk
