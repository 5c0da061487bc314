/- Token buckets as numbers: what each operation does; no program in sight. -/
import Derived.Test.YthglajoihlaldaaDoorRows
namespace Go.Proofs.YthglajoihlaldaaDoor.Tk

def fits (e u : Int) : Bool := decide (1 ≤ e) && decide (e ≤ 1099511627776) && decide (1 ≤ u) && decide (u ≤ 1048576)
def right (k a n : Int) : Bool := decide (0 ≤ a) && decide (a ≤ 2305843009213693952) && ((decide (k = 1) && decide (1 ≤ n) && decide (n ≤ 1048576)) || (decide (k = 2) && decide (n = 0)))
def inT (t : Int) : Bool := decide (0 ≤ t) && decide (t ≤ 3458764513820540928)

/-- An operation under way. -/
structure TU where
  kind : Int
  at_ : Int
  n : Int
  put : Bool := false
  saw : Int := 0
  over : Bool := false
  ok : Bool := false
  wait : Int := 0
  left : Int := 0
/-- What was done. -/
structure Dn where
  kind : Int
  saw : Int
  put : Int
  ok : Bool

def next (e t a n : Int) : Int := max t a + n * e
def stop (e u a : Int) : Int := a + u * e
def leftOf (e u t a : Int) : Int := max (stop e u a - max t a) 0 / e
def waitOf (e u t a n : Int) : Int := if n > u then -1 else next e t a n - stop e u a

structure Out where
  t : Int
  u : TU
  d : Dn
def step (e u t : Int) (p : TU) : Out :=
  match p.put with
  | true => if t = p.saw then ⟨next e t p.at_ p.n, { p with put := false, over := true, ok := true }, ⟨5, t, next e t p.at_ p.n, true⟩⟩
    else ⟨t, { p with put := false }, ⟨5, t, t, false⟩⟩
  | false => if p.kind = 2 then ⟨t, { p with saw := t, over := true, left := leftOf e u t p.at_ }, ⟨1, t, t, true⟩⟩
    else if next e t p.at_ p.n > stop e u p.at_ then ⟨t, { p with saw := t, over := true, wait := waitOf e u t p.at_ p.n }, ⟨1, t, t, true⟩⟩
    else ⟨t, { p with saw := t, put := true }, ⟨1, t, t, true⟩⟩

structure Tkn where
  t : Int
  ok : Bool
  wait : Int
  err : Int
def take (e u t a n : Int) : Tkn :=
  if right 1 a n = true then
    if next e t a n > stop e u a then ⟨t, false, waitOf e u t a n, 0⟩ else ⟨next e t a n, true, 0, 0⟩
  else ⟨t, false, 0, 2⟩
structure Pk where
  left : Int
  err : Int
def peek (e u t a : Int) : Pk := if right 2 a 0 = true then ⟨leftOf e u t a, 0⟩ else ⟨0, 2⟩

/-- An operation done whole. -/
structure Wh where
  t : Int
  ok : Bool
  wait : Int
  left : Int
def whole (e u t k a n : Int) : Wh :=
  if k = 2 then ⟨t, false, 0, leftOf e u t a⟩
  else if next e t a n > stop e u a then ⟨t, false, waitOf e u t a n, 0⟩ else ⟨next e t a n, true, 0, 0⟩

theorem fits_iff {e u : Int} : fits e u = true ↔ 1 ≤ e ∧ e ≤ 1099511627776 ∧ 1 ≤ u ∧ u ≤ 1048576 := by simp [fits, and_assoc]
theorem right_iff {k a n : Int} : right k a n = true ↔ 0 ≤ a ∧ a ≤ 2305843009213693952 ∧ ((k = 1 ∧ 1 ≤ n ∧ n ≤ 1048576) ∨ (k = 2 ∧ n = 0)) := by simp [right, and_assoc]
theorem inT_iff {t : Int} : inT t = true ↔ 0 ≤ t ∧ t ≤ 3458764513820540928 := by simp [inT]

/-- What the numbers may be. -/
structure Fine (e u t a n : Int) : Prop where
  e1 : 1 ≤ e
  e2 : e ≤ 1099511627776
  u1 : 1 ≤ u
  u2 : u ≤ 1048576
  t1 : 0 ≤ t
  t2 : t ≤ 3458764513820540928
  a1 : 0 ≤ a
  a2 : a ≤ 2305843009213693952
  n1 : 0 ≤ n
  n2 : n ≤ 1048576
theorem mul_bound {x y X Y : Int} (hx : 0 ≤ x) (hx' : x ≤ X) (hy : 0 ≤ y) (hy' : y ≤ Y) : 0 ≤ x * y ∧ x * y ≤ X * Y :=
  ⟨Int.mul_nonneg hx hy, Int.mul_le_mul hx' hy' hy (Int.le_trans hx hx')⟩
theorem Fine.ne {e u t a n : Int} (h : Fine e u t a n) : 0 ≤ n * e ∧ n * e ≤ 1152921504606846976 := by
  have := mul_bound h.n1 h.n2 (Int.le_trans (by omega) h.e1) h.e2
  omega
theorem Fine.ue {e u t a n : Int} (h : Fine e u t a n) : 0 ≤ u * e ∧ u * e ≤ 1152921504606846976 := by
  have := mul_bound (Int.le_trans (by omega) h.u1) h.u2 (Int.le_trans (by omega) h.e1) h.e2
  omega
/-- The word stays small. -/
theorem Fine.next_le {e u t a n : Int} (h : Fine e u t a n) (hs : ¬ next e t a n > stop e u a) : 0 ≤ next e t a n ∧ next e t a n ≤ 3458764513820540928 := by
  obtain ⟨e1, e2, u1, u2, t1, t2, a1, a2, n1, n2⟩ := h
  have h1 := Fine.ne ⟨e1, e2, u1, u2, t1, t2, a1, a2, n1, n2⟩
  have h2 := Fine.ue ⟨e1, e2, u1, u2, t1, t2, a1, a2, n1, n2⟩
  unfold next stop at *
  omega

theorem fine {e u t a n k : Int} (h1 : fits e u = true) (h2 : inT t = true) (h3 : right k a n = true) : Fine e u t a n := by
  rw [fits_iff] at h1
  rw [inT_iff] at h2
  rw [right_iff] at h3
  exact ⟨h1.1, h1.2.1, h1.2.2.1, h1.2.2.2, h2.1, h2.2, h3.1, h3.2.1, by omega, by omega⟩
theorem Fine.left_le {e u t a n : Int} (h : Fine e u t a n) : 0 ≤ leftOf e u t a ∧ leftOf e u t a ≤ u := by
  have he : 0 < e := by have := h.e1; omega
  refine ⟨Int.ediv_nonneg (by omega) (by omega), ?_⟩
  unfold leftOf stop
  have h2 := h.ue
  refine Int.le_trans (Int.ediv_le_ediv he (b := u * e) (by omega)) ?_
  rw [Int.mul_ediv_cancel _ (by omega)]
  exact Int.le_refl _
/-- As many as there are are given, one more is not. -/
theorem given_iff {e u t a n : Int} (he : 1 ≤ e) (hn : 1 ≤ n) : ¬ next e t a n > stop e u a ↔ n ≤ leftOf e u t a := by
  unfold leftOf
  rw [Int.le_ediv_iff_mul_le (by omega)]
  have : 1 ≤ n * e := Int.le_trans hn (by have := Int.mul_le_mul_of_nonneg_left he (show 0 ≤ n by omega); simpa using this)
  unfold next
  omega
theorem left_next {e u t a n : Int} (he : 1 ≤ e) (hn : 1 ≤ n) (h : ¬ next e t a n > stop e u a) : leftOf e u (next e t a n) a = leftOf e u t a - n := by
  have h1 : 1 ≤ n * e := Int.le_trans hn (by have := Int.mul_le_mul_of_nonneg_left he (show 0 ≤ n by omega); simpa using this)
  unfold leftOf
  have e1 : max (stop e u a - max (next e t a n) a) 0 = max (stop e u a - max t a) 0 + (-n) * e := by
    rw [Int.neg_mul]
    unfold next at *
    omega
  rw [e1, Int.add_mul_ediv_right _ _ (by omega)]
  omega
theorem take_inT {e u t a n : Int} (h1 : fits e u = true) (h2 : inT t = true) : inT (take e u t a n).t = true := by
  unfold take
  split
  · rename_i hr
    split
    · exact h2
    · rename_i hs
      rw [inT_iff]
      exact (fine h1 h2 hr).next_le hs
  · exact h2
theorem take_no {e u t a n : Int} (hr : right 1 a n = false) : take e u t a n = ⟨t, false, 0, 2⟩ := by simp [take, hr]
theorem take_yes {e u t a n : Int} (hr : right 1 a n = true) (h : ¬ next e t a n > stop e u a) : take e u t a n = ⟨next e t a n, true, 0, 0⟩ := by simp [take, hr, h]
theorem take_wait {e u t a n : Int} (hr : right 1 a n = true) (h : next e t a n > stop e u a) : take e u t a n = ⟨t, false, waitOf e u t a n, 0⟩ := by simp [take, hr, h]
/-- An operation under way is as it may be. -/
structure Good (x : TU) : Prop where
  right : right x.kind x.at_ x.n = true
  saw : inT x.saw = true
  fresh : x.over = false → x.ok = false ∧ x.wait = 0 ∧ x.left = 0
theorem good_new {k a n : Int} (h : Tk.right k a n = true) : Good { kind := k, at_ := a, n := n } := ⟨h, rfl, fun _ => ⟨rfl, rfl, rfl⟩⟩
/-- What a step leaves of an operation. -/
theorem step_u (e u t : Int) (x : TU) : (step e u t x).u = { kind := x.kind, at_ := x.at_, n := x.n, put := (step e u t x).u.put, saw := (step e u t x).u.saw, over := (step e u t x).u.over, ok := (step e u t x).u.ok, wait := (step e u t x).u.wait, left := (step e u t x).u.left } := by
  obtain ⟨kind, at_, n, put, saw, over, ok, wait, left⟩ := x
  cases put <;> simp only [step]
  · split
    · rfl
    · split <;> rfl
  · split <;> rfl
theorem step_inT {e u t : Int} {x : TU} (h1 : fits e u = true) (h2 : inT t = true) (hg : Good x) (hx : x.put = true → ¬ next e x.saw x.at_ x.n > stop e u x.at_ ∧ x.kind ≠ 2) : inT (step e u t x).t = true := by
  have F := fine h1 h2 hg.right
  unfold step
  split
  · rename_i hp
    split
    · rename_i ht
      have hn := (hx hp).1
      rw [← ht] at hn
      rw [inT_iff]
      exact F.next_le hn
    · exact h2
  · split
    · exact h2
    · split <;> exact h2
theorem step_good {e u t : Int} {x : TU} (h2 : inT t = true) (hg : Good x) (ho : x.over = false) : Good (step e u t x).u := by
  obtain ⟨h3, h4, h5⟩ := hg
  obtain ⟨q1, q2, q3⟩ := h5 ho
  unfold step
  split
  · split
    · exact ⟨h3, h4, by simp⟩
    · exact ⟨h3, h4, fun _ => ⟨q1, q2, q3⟩⟩
  · split
    · exact ⟨h3, h2, by simp⟩
    · split
      · exact ⟨h3, h2, by simp⟩
      · exact ⟨h3, h2, fun _ => ⟨q1, q2, q3⟩⟩
/-- What waits to be put had room when it looked. -/
def Room (e u : Int) (x : TU) : Prop := x.put = true → ¬ next e x.saw x.at_ x.n > stop e u x.at_ ∧ x.kind ≠ 2
theorem step_room {e u t : Int} {x : TU} (_ : Room e u x) : Room e u (step e u t x).u := by
  unfold step
  split
  · split <;> (intro hh; simp at hh)
  · rename_i hp
    split
    · intro hh; simp only [hp] at hh; cases hh
    · rename_i hk
      split
      · intro hh; simp only [hp] at hh; cases hh
      · rename_i hn; exact fun _ => ⟨hn, hk⟩
end Go.Proofs.YthglajoihlaldaaDoor.Tk
