/- Of tokens that were given one behind the other: any run of them is at most what the bucket gives between the least and the greatest moment among them. -/
import Derived.Test.YthglajoihlaldaaDoorTokPure
namespace Go.Proofs.YthglajoihlaldaaDoor.Tk
/-- A Take that was done: its moment and tokens. -/
structure Gv where
  a : Int
  n : Int
/-- The word behind them. -/
def word (e : Int) (D : List Gv) : Int := D.foldl (fun t d => next e t d.a d.n) 0
structure Lim (e u : Int) (D : List Gv) (t : Int) : Prop where
  word : word e D = t
  each : ∀ (k : Nat) d, D[k]? = some d → 1 ≤ d.n ∧ d.n ≤ 1048576 ∧ 0 ≤ d.a ∧ d.a ≤ 2305843009213693952 ∧ ¬ next e (Tk.word e (D.take k)) d.a d.n > stop e u d.a
theorem lim_nil (e u : Int) : Lim e u [] 0 := ⟨rfl, by simp⟩
theorem word_snoc (e : Int) (D : List Gv) (d : Gv) : word e (D ++ [d]) = next e (word e D) d.a d.n := by simp [word, List.foldl_append]
theorem word_take {e : Int} {D : List Gv} {k : Nat} {d : Gv} (h : D[k]? = some d) : word e (D.take (k + 1)) = next e (word e (D.take k)) d.a d.n := by
  rw [List.take_add_one, h]
  exact word_snoc e (D.take k) d
theorem Lim.snoc {e u t : Int} {D : List Gv} (h : Lim e u D t) {d : Gv} (h1 : 1 ≤ d.n) (h2 : d.n ≤ 1048576) (h3 : 0 ≤ d.a) (h4 : d.a ≤ 2305843009213693952) (h5 : ¬ next e t d.a d.n > stop e u d.a) : Lim e u (D ++ [d]) (next e t d.a d.n) := by
  refine ⟨by rw [word_snoc, h.word], fun k x hx => ?_⟩
  by_cases hk : k < D.length
  · rw [List.getElem?_append_left hk] at hx
    rw [List.take_append_of_le_length (by omega)]
    exact h.each k x hx
  · rw [List.getElem?_append_right (by omega)] at hx
    have e0 : k - D.length = 0 := by
      have := (List.getElem?_eq_some_iff.1 hx).1
      simp at this; omega
    rw [e0] at hx
    simp only [List.getElem?_cons_zero, Option.some.injEq] at hx
    subst hx
    have e1 : k = D.length := by omega
    rw [e1, List.take_left', h.word]
    · exact ⟨h1, h2, h3, h4, h5⟩
    · rfl
/-- Within a run, from i on. -/
structure Run (e : Int) (D : List Gv) (i k : Nat) (lo hi sum : Int) : Prop where
  le : i ≤ k
  lo0 : 0 ≤ lo
  hi0 : hi ≤ 2305843009213693952
  lohi : lo ≤ hi
  sum0 : 0 ≤ sum
  sum1 : sum ≤ (k - i) * 1048576
  first : k = i → sum = 0 ∧ ∀ d, D[i]? = some d → lo = d.a ∧ hi = d.a
  room : i < k → lo + sum * e ≤ word e (D.take k)
theorem Run.start {e u t : Int} {D : List Gv} (h : Lim e u D t) {i : Nat} {d : Gv} (hd : D[i]? = some d) : Run e D i i d.a d.a 0 := by
  obtain ⟨_, _, h3, h4, _⟩ := h.each i d hd
  exact ⟨Nat.le_refl _, h3, h4, Int.le_refl _, Int.le_refl _, by omega, fun _ => ⟨rfl, fun d' hd' => by rw [hd] at hd'; cases hd'; exact ⟨rfl, rfl⟩⟩, fun h => absurd h (Nat.lt_irrefl _)⟩
theorem Run.next {e u t : Int} {D : List Gv} (h : Lim e u D t) (hf : fits e u = true) {i k : Nat} {lo hi sum lo' hi' : Int} (r : Run e D i k lo hi sum) {d : Gv} (hd : D[k]? = some d) (hlo : lo' = min lo d.a) (hhi : hi' = max hi d.a) :
    Run e D i (k + 1) lo' hi' (sum + d.n) ∧ sum + d.n ≤ u + (hi' - lo') / e := by
  obtain ⟨h1, h2, h3, h4, h5⟩ := h.each k d hd
  rw [fits_iff] at hf
  have hw := word_take (e := e) hd
  have hn : d.n * e = d.n * e := rfl
  have key : lo' + (sum + d.n) * e ≤ word e (D.take (k + 1)) := by
    rw [hw, Int.add_mul]
    unfold Tk.next
    by_cases hk : k = i
    · obtain ⟨q1, q2⟩ := r.first hk
      rw [q1, Int.zero_mul]
      omega
    · have := r.room (by have := r.le; omega)
      omega
  refine ⟨⟨by have := r.le; omega, by have := r.lo0; omega, by have := r.hi0; omega, by have := r.lohi; omega, by have := r.sum0; omega, ?_, fun hh => by have := r.le; omega, fun _ => key⟩, ?_⟩
  · have := r.sum1
    have e1 : ((k + 1 : Nat) : Int) - i = ((k : Int) - i) + 1 := by omega
    rw [e1, Int.add_mul]
    omega
  · have : (sum + d.n - u) ≤ (hi' - lo') / e := by
      rw [Int.le_ediv_iff_mul_le (by omega), Int.sub_mul]
      rw [hw] at key
      unfold stop at h5
      omega
    omega
end Go.Proofs.YthglajoihlaldaaDoor.Tk
