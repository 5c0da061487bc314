/- Sharded counters as numbers: what each operation does. -/
import Derived.Test.YtfdgggikjnoghaaDoorCellsR
namespace Go.Proofs.YtfdgggikjnoghaaDoor.Sk
open Go
abbrev w64 (x : Int) : Int := IntKind.u64.wrap x
def isOne (k : Int) : Bool := decide (k = 1) || decide (k = 2)
def isAll (k : Int) : Bool := decide (k = 3) || decide (k = 4)
def right (k w b : Int) : Bool := (isOne k && decide (0 ≤ w) && (decide (k = 1) || decide (b = 0))) || (isAll k && decide (w = 0) && decide (b = 0))
/-- An operation under way: what it is; what its next action is, at which cell; the last cell; what it has come to. -/
structure SU where
  kind : Int
  worker : Int
  by_ : Int
  ak : Int
  ab : Int
  cell : Int
  last : Int
  sum : Int
  over : Bool
def akOf (k : Int) : Int := if k = 1 then 3 else if k = 4 then 4 else 1
def abOf (k b : Int) : Int := if k = 1 then b else 0
def cellOf (n : Nat) (k w : Int) : Int := if isOne k = true then Int.tmod w n else 0
def lastOf (n : Nat) (k w : Int) : Int := if isOne k = true then Int.tmod w n else IntKind.i64.wrap ((n : Int) - 1)
def start (n : Nat) (k w b : Int) : SU := ⟨k, w, b, akOf k, abOf k b, cellOf n k w, lastOf n k w, 0, false⟩
/-- An action: which there are; what it puts, what it saw. -/
def okAct (ak ab : Int) : Bool := decide (ak = 3) || decide (ak = 4) || (decide (ak = 1) && decide (ab = 0))
def putOf (ak ab x : Int) : Int := if ak = 3 then w64 (x + ab) else if ak = 4 then ab else x
def sawOf (ak ab x : Int) : Int := if ak = 3 then w64 (w64 (x + ab) - ab) else x
def sumOf (ak sum saw put : Int) : Int := if ak = 3 then put else w64 (sum + saw)
structure Out where
  xs : List Int
  u : SU
  saw : Int
  put : Int
def step (xs : List Int) (u : SU) : Out :=
  let x := seeAt xs u.cell
  ⟨putAt xs u.cell (putOf u.ak u.ab x), { u with cell := IntKind.i64.wrap (u.cell + 1), sum := sumOf u.ak u.sum (sawOf u.ak u.ab x) (putOf u.ak u.ab x), over := decide (IntKind.i64.wrap (u.cell + 1) > u.last) }, sawOf u.ak u.ab x, putOf u.ak u.ab x⟩
/-- Steps until it is over. -/
def run : Nat → List Int → SU → List Int × SU
  | 0, xs, u => (xs, u)
  | f + 1, xs, u => match u.over with
    | true => (xs, u)
    | false => run f (step xs u).xs (step xs u).u
theorem run_over {f : Nat} {xs : List Int} {u : SU} (h : u.over = true) : run f xs u = (xs, u) := by
  cases f with
  | zero => rfl
  | succ f => simp only [run, h]
theorem run_step {f : Nat} {xs : List Int} {u : SU} (h : u.over = false) : run (f + 1) xs u = run f (step xs u).xs (step xs u).u := by simp only [run, h]
/-- An operation under way over n cells. -/
structure Live (n : Nat) (u : SU) : Prop where
  cell : 0 ≤ u.cell ∧ u.cell ≤ u.last + 1
  last : u.last < n
  over : u.over = decide (u.cell > u.last)
  act : okAct u.ak u.ab = true
def left (u : SU) : Nat := (u.last + 1 - u.cell).toNat
theorem wrap_same {x : Int} (h : -9223372036854775808 ≤ x) (h' : x ≤ 9223372036854775807) : IntKind.i64.wrap x = x := Sy.wrap_i64 h h'
theorem one_all {k w b : Int} (h : right k w b = true) : (isOne k = true ∧ 0 ≤ w) ∨ (isOne k = false ∧ isAll k = true) := by
  cases h1 : isOne k
  · right
    refine ⟨rfl, ?_⟩
    simp only [right, h1, Bool.false_and, Bool.false_or, Bool.and_eq_true] at h
    exact h.1.1
  · left
    refine ⟨rfl, ?_⟩
    simp only [right, h1, Bool.true_and, Bool.or_eq_true, Bool.and_eq_true, decide_eq_true_eq] at h
    rcases h with h | h
    · exact h.1
    · have := h.1.1
      have := h.1.2
      omega
theorem start_live {n : Nat} {k w b : Int} (hr : right k w b = true) (hn : 0 < n) (hm : n ≤ 9223372036854775807) : Live n (start n k w b) := by
  have hact : okAct (akOf k) (abOf k b) = true := by
    unfold okAct akOf abOf
    by_cases h1 : k = 1
    · simp [h1]
    · by_cases h4 : k = 4
      · simp [h4]
      · simp [h1, h4]
  rcases one_all hr with ⟨h1, h2⟩ | ⟨h1, _⟩
  · have e1 := Int.tmod_nonneg (a := w) (n : Int) h2
    have e2 := Int.tmod_lt_of_pos w (b := (n : Int)) (by omega)
    refine ⟨?_, ?_, ?_, hact⟩
    · simp only [start, cellOf, lastOf, h1, if_true]; omega
    · simp only [start, lastOf, h1, if_true]; omega
    · simp only [start, cellOf, lastOf, h1, if_true]; simp
  · have e1 : lastOf n k w = (n : Int) - 1 := by
      simp only [lastOf, h1, Bool.false_eq_true, if_false]
      exact wrap_same (by omega) (by omega)
    have e2 : cellOf n k w = 0 := by simp [cellOf, h1]
    refine ⟨?_, ?_, ?_, hact⟩
    · simp only [start, e1, e2]; omega
    · simp only [start, e1]; omega
    · simp only [start, e1, e2]
      have : ¬ (0 > (n : Int) - 1) := by omega
      simp [this]
theorem step_live {n : Nat} {xs : List Int} {u : SU} (h : Live n u) (ho : u.over = false) (hm : n ≤ 9223372036854775807) : u.cell ≤ u.last ∧ Live n (step xs u).u ∧ left u = left (step xs u).u + 1 := by
  have h1 := h.over
  rw [ho] at h1
  have h2 : u.cell ≤ u.last := by
    have := of_decide_eq_false h1.symm
    omega
  have h3 := h.cell
  have h4 := h.last
  have e1 : IntKind.i64.wrap (u.cell + 1) = u.cell + 1 := wrap_same (by omega) (by omega)
  refine ⟨h2, ⟨?_, ?_, ?_, h.act⟩, ?_⟩
  · simp only [step, e1]; omega
  · exact h4
  · simp only [step, e1]
  · simp only [left, step, e1]; omega
theorem run_left {n : Nat} (hm : n ≤ 9223372036854775807) : ∀ (f : Nat) (xs : List Int) (u : SU), Live n u → left u ≤ f → run f xs u = run (left u) xs u
  | 0, xs, u, _, hf => by rw [Nat.le_zero.1 hf]
  | f + 1, xs, u, h, hf => by
    cases ho : u.over with
    | true => rw [run_over ho, run_over ho]
    | false =>
      obtain ⟨_, h2, h3⟩ := step_live (xs := xs) h ho hm
      rw [h3, run_step ho, run_step ho]
      exact run_left hm f _ _ h2 (by omega)
theorem left_start {n : Nat} {k w b : Int} (hr : right k w b = true) (hn : 0 < n) (hm : n ≤ 9223372036854775807) : left (start n k w b) ≤ n := by
  have h := start_live hr hn hm
  have h1 := h.cell
  have h2 := h.last
  have h3 : 0 ≤ (start n k w b).cell := h1.1
  unfold left
  omega
theorem step_len (xs : List Int) (u : SU) : (step xs u).xs.length = xs.length := by simp [step, putAt]
theorem run_len : ∀ (f : Nat) (xs : List Int) (u : SU), (run f xs u).1.length = xs.length
  | 0, _, _ => rfl
  | f + 1, xs, u => by
    simp only [run]
    split
    · rfl
    · rw [run_len f, step_len]
end Go.Proofs.YtfdgggikjnoghaaDoor.Sk
