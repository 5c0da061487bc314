/- Sharded counters as numbers: a sum among adds lies between. -/
import Derived.Test.YtfdgggikjnoghaaDoorShSum
namespace Go.Proofs.YtfdgggikjnoghaaDoor.Sk
open Go
theorem w64_small {x : Int} (h0 : 0 ≤ x) (h1 : x < 18446744073709551616) : w64 x = x := by rw [w64_eq]; omega
theorem w64_range (x : Int) : 0 ≤ w64 x ∧ w64 x < 18446744073709551616 := by rw [w64_eq]; omega
/-- What is still to be added. -/
def rest : List RU → Int
  | [] => 0
  | r :: l => (if r.k = 1 ∧ r.at_ = 0 then w64 r.b else 0) + rest l
theorem rest_nonneg : ∀ us : List RU, 0 ≤ rest us
  | [] => Int.le_refl _
  | r :: us => by
    have := rest_nonneg us
    have := (w64_range r.b).1
    simp only [rest]
    split <;> omega
theorem rest_set : ∀ {us : List RU} {i : Nat} {r r' : RU}, us[i]? = some r → rest (us.set i r') = rest us - (if r.k = 1 ∧ r.at_ = 0 then w64 r.b else 0) + (if r'.k = 1 ∧ r'.at_ = 0 then w64 r'.b else 0)
  | x :: us, 0, r, r', h => by
    simp only [List.getElem?_cons_zero, Option.some.injEq] at h
    subst h
    simp only [List.set_cons_zero, rest]; omega
  | x :: us, i + 1, r, r', h => by
    have := rest_set (us := us) (i := i) (r := r) (r' := r') (by simpa using h)
    simp only [List.set_cons_succ, rest, this]; omega
theorem rest_mem {us : List RU} {i : Nat} {r : RU} (h : us[i]? = some r) (hk : r.k = 1) (ha : r.at_ = 0) : w64 r.b ≤ rest us := by
  have h1 := rest_set (r' := { r with at_ := 1 }) h
  have h2 := rest_nonneg (us.set i { r with at_ := 1 })
  rw [if_pos ⟨hk, ha⟩, if_neg (by simp)] at h1
  omega
theorem rest_snoc : ∀ {us : List RU} {r : RU}, rest (us ++ [r]) = rest us + (if r.k = 1 ∧ r.at_ = 0 then w64 r.b else 0)
  | [], r => by simp [rest]
  | x :: us, r => by simp only [List.cons_append, rest, rest_snoc (us := us)]; omega
theorem tot_nonneg : ∀ {xs : List Int}, (∀ x ∈ xs, 0 ≤ x) → 0 ≤ tot xs
  | [], _ => Int.le_refl _
  | x :: r, h => by
    have := h x (List.mem_cons_self ..)
    have := tot_nonneg (xs := r) (fun y hy => h y (List.mem_cons_of_mem _ hy))
    simp only [tot]; omega
theorem tot_app : ∀ (xs ys : List Int), tot (xs ++ ys) = tot xs + tot ys
  | [], ys => by simp [tot]
  | x :: r, ys => by simp only [List.cons_append, tot, tot_app r ys]; omega
theorem tot_take_drop (xs : List Int) (i : Nat) : tot (xs.take i) + tot (xs.drop i) = tot xs := by
  rw [← tot_app, List.take_append_drop]
theorem tot_take {xs : List Int} {i : Nat} (h : i < xs.length) : tot (xs.take (i + 1)) = tot (xs.take i) + xs.getD i 0 := by
  rw [List.take_add_one, List.getElem?_eq_getElem h, tot_app, List.getD_eq_getElem?_getD, List.getElem?_eq_getElem h]
  simp [tot]
theorem tot_take_set {xs : List Int} {i j : Nat} {y : Int} (h : j < xs.length) (hy : xs.getD j 0 ≤ y) : tot (xs.take i) ≤ tot ((xs.set j y).take i) ∧ tot (xs.drop i) ≤ tot ((xs.set j y).drop i) := by
  by_cases hij : j < i
  · rw [List.take_set, List.drop_set_of_lt hij]
    refine ⟨?_, Int.le_refl _⟩
    rw [tot_set (by simp; omega)]
    rw [List.getD_eq_getElem?_getD, List.getElem?_take_of_lt hij, ← List.getD_eq_getElem?_getD]
    omega
  · rw [List.take_set_of_le (by omega)]
    refine ⟨Int.le_refl _, ?_⟩
    have e1 := tot_take_drop xs i
    have e2 := tot_take_drop (xs.set j y) i
    rw [List.take_set_of_le (by omega), tot_set h] at e2
    omega
theorem get_le_tot : ∀ {xs : List Int} {i : Nat}, (∀ x ∈ xs, 0 ≤ x) → xs.getD i 0 ≤ tot xs
  | [], i, _ => by simp [tot]
  | x :: r, 0, h => by
    have := tot_nonneg (xs := r) (fun y hy => h y (List.mem_cons_of_mem _ hy))
    simp [tot]; omega
  | x :: r, i + 1, h => by
    have := h x (List.mem_cons_self ..)
    have := get_le_tot (xs := r) (i := i) (fun y hy => h y (List.mem_cons_of_mem _ hy))
    simp only [List.getD_cons_succ, tot]; omega
/-- What is known of a sum under way. -/
structure SumOk (xs : List Int) (r : RU) (least floor : Int) : Prop where
  s0 : 0 ≤ r.sum
  hi : r.sum ≤ tot (xs.take r.at_.toNat)
  lo : r.at_ ≠ 0 → least ≤ r.sum + tot (xs.drop r.at_.toNat) ∧ floor ≤ least
/-- What holds ahead of each step. -/
structure Bet (n : Nat) (xs : List Int) (us : List RU) (ls fs : List Int) (ad G B : Int) : Prop where
  len : xs.length = n
  lls : ls.length = us.length
  lfs : fs.length = us.length
  pos : ∀ x ∈ xs, 0 ≤ x
  tot : tot xs = ad
  room : ad + rest us ≤ B
  max : B < 18446744073709551616
  grt : G ≤ ad
  good : ∀ r ∈ us, RGood n r ∧ r.k ≠ 4
  sum : ∀ (i : Nat) r, us[i]? = some r → r.k = 3 → SumOk xs r (ls.getD i 0) (fs.getD i 0)
theorem Bet.inU {n : Nat} {xs : List Int} {us : List RU} {ls fs : List Int} {ad G B : Int} (h : Bet n xs us ls fs ad G B) : InU xs := fun x hx => by
  obtain ⟨i, hi⟩ := List.mem_iff_getElem?.1 hx
  have h1 := get_le_tot (i := i) h.pos
  rw [List.getD_eq_getElem?_getD, hi] at h1
  simp only [Option.getD_some] at h1
  have := h.tot
  have := h.room
  have := h.max
  have := rest_nonneg us
  exact w64_small (h.pos x hx) (by omega)
theorem see_pos {xs : List Int} (h : ∀ x ∈ xs, 0 ≤ x) (i : Int) : 0 ≤ seeAt xs i := by
  unfold seeAt
  rw [List.getD_eq_getElem?_getD]
  cases hx : xs[i.toNat]? with
  | none => exact Int.le_refl _
  | some x => exact h x (List.mem_of_getElem? hx)
theorem put_same {xs : List Int} {i : Int} (h : i.toNat < xs.length) : putAt xs i (seeAt xs i) = xs := by
  unfold putAt seeAt
  rw [List.getD_eq_getElem?_getD, List.getElem?_eq_getElem h]
  exact List.set_getElem_self h
theorem Bet.begin {n : Nat} {xs : List Int} {us : List RU} {ls fs : List Int} {ad G B : Int} (h : Bet n xs us ls fs ad G B) {q : Nat} {r : RU} (hr : us[q]? = some r) (ha : r.at_ = 0) : Bet n xs us (ls.set q ad) (fs.set q G) ad G B := by
  refine ⟨h.len, by rw [List.length_set]; exact h.lls, by rw [List.length_set]; exact h.lfs, h.pos, h.tot, h.room, h.max, h.grt, h.good, fun i r' hi hk => ?_⟩
  by_cases hiq : i = q
  · subst hiq
    rw [hr] at hi
    cases hi
    obtain ⟨s0, s1, _⟩ := h.sum i r hr hk
    exact ⟨s0, s1, fun hh => absurd ha hh⟩
  · obtain ⟨s0, s1, s2⟩ := h.sum i r' hi hk
    refine ⟨s0, s1, fun hh => ?_⟩
    rw [List.getD_eq_getElem?_getD, List.getElem?_set_ne (fun e => hiq e.symm), ← List.getD_eq_getElem?_getD, List.getD_eq_getElem?_getD (l := fs.set q G), List.getElem?_set_ne (fun e => hiq e.symm), ← List.getD_eq_getElem?_getD]
    exact s2 hh
/-- One step, of an operation with 'ls', 'fs' as they were set. -/
theorem Bet.step {n : Nat} {xs : List Int} {us : List RU} {ls fs : List Int} {ad G B : Int} (h : Bet n xs us ls fs ad G B) (hn : 0 < n) (hm : n ≤ 64) {q : Nat} {r : RU} (hr : us[q]? = some r) (he : ended n r = false) (hl : r.k = 3 → ls.getD q 0 ≤ r.sum + Sk.tot (xs.drop r.at_.toNat) ∧ fs.getD q 0 ≤ ls.getD q 0) :
    Bet n (Sk.step xs (prog n r)).xs (us.set q (rnext n xs r)) ls fs (if r.k = 1 then w64 (ad + r.b) else ad) G B ∧
      (r.k = 3 → ended n (rnext n xs r) = true → ls.getD q 0 ≤ (rnext n xs r).sum ∧ (rnext n xs r).sum ≤ ad ∧ fs.getD q 0 ≤ (rnext n xs r).sum) := by
  obtain ⟨hg, hk4⟩ := h.good r (List.mem_of_getElem? hr)
  obtain ⟨z1, _, _, _, z5, _, z7, z8⟩ := sim hn (by omega) hg he h.inU
  have hlen := h.len
  have hi : (rcell n r.k r.w r.at_).toNat < xs.length := by omega
  have h2 := of_decide_eq_false he
  have h0 := hg.at0
  have hw : IntKind.i64.wrap (r.at_ + 1) = r.at_ + 1 := by
    have := many_pos (n := n) (k := r.k) hn (by omega)
    exact wrap_same (by omega) (by omega)
  have hq := (List.getElem?_eq_some_iff.1 hr).1
  have hrest := rest_nonneg us
  have hroom := h.room
  have hmax := h.max
  have htot := h.tot
  have hgrt := h.grt
  have gd : ∀ r' ∈ us.set q (rnext n xs r), RGood n r' ∧ r'.k ≠ 4 := fun r' hm => by
    rcases List.mem_or_eq_of_mem_set hm with hm | rfl
    · exact h.good r' hm
    · exact ⟨z5, hk4⟩
  have hx0 := see_pos h.pos (rcell n r.k r.w r.at_)
  have hxle : seeAt xs (rcell n r.k r.w r.at_) ≤ Sk.tot xs := get_le_tot h.pos
  rcases kinds_of hg.right with hk | hk | hk | hk
  · -- an add
    have ha : r.at_ = 0 := by
      simp [manyOf, hk, isAll] at h2
      omega
    have hb := w64_range r.b
    have hrm := rest_mem hr hk ha
    have e1 : (Sk.step xs (prog n r)).xs = xs.set (rcell n r.k r.w r.at_).toNat (seeAt xs (rcell n r.k r.w r.at_) + w64 r.b) := by
      rw [z1]
      simp only [rput, hk, if_true, putAt]
      rw [← hk]
      congr 1
      rw [w64_eq] at *
      rw [w64_eq]
      omega
    have e2 : w64 (ad + r.b) = ad + w64 r.b := by
      rw [w64_eq] at *
      rw [w64_eq]
      omega
    have e3 : (rnext n xs r).k = 1 := hk
    have e4 : (rnext n xs r).at_ = 1 := by simp only [rnext, hw, ha]; rfl
    refine ⟨⟨by rw [e1, List.length_set]; exact hlen, by rw [List.length_set]; exact h.lls, by rw [List.length_set]; exact h.lfs, fun x hx => ?_, ?_, ?_, hmax, ?_, gd, fun i r' hi' hk' => ?_⟩, fun h3 => by omega⟩
    · rw [e1] at hx
      rcases List.mem_or_eq_of_mem_set hx with hx | rfl
      · exact h.pos x hx
      · omega
    · rw [e1, tot_set hi, htot, if_pos hk, e2]
      rw [show xs.getD (rcell n r.k r.w r.at_).toNat 0 = seeAt xs (rcell n r.k r.w r.at_) from rfl]
      omega
    · rw [if_pos hk, e2, rest_set hr, e3, e4]
      simp only [hk, ha]
      simp
      omega
    · rw [if_pos hk, e2]; omega
    · by_cases hiq : i = q
      · subst hiq
        rw [List.getElem?_set_self hq] at hi'
        cases hi'
        rw [e3] at hk'
        omega
      · rw [List.getElem?_set_ne (fun e => hiq e.symm)] at hi'
        obtain ⟨s0, s1, s2⟩ := h.sum i r' hi' hk'
        rw [e1]
        obtain ⟨t1, t2⟩ := tot_take_set (i := r'.at_.toNat) hi (y := seeAt xs (rcell n r.k r.w r.at_) + w64 r.b) (by rw [show xs.getD (rcell n r.k r.w r.at_).toNat 0 = seeAt xs (rcell n r.k r.w r.at_) from rfl]; omega)
        exact ⟨s0, by omega, fun hh => ⟨by have := (s2 hh).1; omega, (s2 hh).2⟩⟩
  · -- a read
    have e1 : (Sk.step xs (prog n r)).xs = xs := by
      rw [z1]
      simp only [rput, hk]
      simp only [show ¬ ((2 : Int) = 1) by omega, show ¬ ((2 : Int) = 4) by omega, if_false]
      rw [← hk]
      exact put_same hi
    have e3 : (rnext n xs r).k = 2 := hk
    refine ⟨⟨by rw [e1]; exact hlen, by rw [List.length_set]; exact h.lls, by rw [List.length_set]; exact h.lfs, by rw [e1]; exact h.pos, ?_, ?_, hmax, ?_, gd, fun i r' hi' hk' => ?_⟩, fun h3 => by omega⟩
    · rw [e1, if_neg (by omega)]; exact htot
    · rw [if_neg (by omega), rest_set hr, e3, hk]
      simp
      exact hroom
    · rw [if_neg (by omega)]; exact hgrt
    · rw [e1]
      by_cases hiq : i = q
      · subst hiq
        rw [List.getElem?_set_self hq] at hi'
        cases hi'
        rw [e3] at hk'
        omega
      · rw [List.getElem?_set_ne (fun e => hiq e.symm)] at hi'
        exact h.sum i r' hi' hk'
  · -- a sum
    have e1 : (Sk.step xs (prog n r)).xs = xs := by
      rw [z1]
      simp only [rput, hk]
      simp only [show ¬ ((3 : Int) = 1) by omega, show ¬ ((3 : Int) = 4) by omega, if_false]
      rw [← hk]
      exact put_same hi
    have hrc : rcell n r.k r.w r.at_ = r.at_ := by simp [rcell, hk, isOne]
    rw [hrc] at hi hx0 hxle
    have e3 : (rnext n xs r).k = 3 := hk
    have ea : (rnext n xs r).at_.toNat = r.at_.toNat + 1 := by simp only [rnext, hw]; omega
    obtain ⟨s0, s1, s2⟩ := h.sum q r hr hk
    obtain ⟨l1, l2⟩ := hl hk
    have t1 := tot_take hi
    have t2 := tot_drop hi
    have t3 := tot_take_drop xs (r.at_.toNat + 1)
    have t4 := tot_nonneg (xs := xs.drop (r.at_.toNat + 1)) (fun x hx => h.pos x (List.mem_of_mem_drop hx))
    rw [show xs.getD r.at_.toNat 0 = seeAt xs r.at_ from rfl] at t1 t2
    have es : (rnext n xs r).sum = r.sum + seeAt xs r.at_ := by
      simp only [rnext, rsum, hrc]
      rw [if_neg (by omega)]
      exact w64_small (by omega) (by omega)
    refine ⟨⟨by rw [e1]; exact hlen, by rw [List.length_set]; exact h.lls, by rw [List.length_set]; exact h.lfs, by rw [e1]; exact h.pos, ?_, ?_, hmax, ?_, gd, fun i r' hi' hk' => ?_⟩, fun _ hend => ?_⟩
    · rw [e1, if_neg (by omega)]; exact htot
    · rw [if_neg (by omega), rest_set hr, e3, hk]
      simp
      exact hroom
    · rw [if_neg (by omega)]; exact hgrt
    · rw [e1]
      by_cases hiq : i = q
      · subst hiq
        rw [List.getElem?_set_self hq] at hi'
        cases hi'
        refine ⟨by rw [es]; omega, by rw [es, ea]; omega, fun _ => ⟨by rw [es, ea]; omega, l2⟩⟩
      · rw [List.getElem?_set_ne (fun e => hiq e.symm)] at hi'
        exact h.sum i r' hi' hk'
    · have hd : r.at_.toNat + 1 = xs.length := by
        have h3 := of_decide_eq_true hend
        simp only [rnext, hw, manyOf, hk, isAll] at h3
        simp at h3
        omega
      have t5 : Sk.tot (xs.drop (r.at_.toNat + 1)) = 0 := by rw [hd, List.drop_length]; rfl
      rw [es]
      refine ⟨by omega, by omega, by omega⟩
  · exact absurd hk hk4
end Go.Proofs.YtfdgggikjnoghaaDoor.Sk
