/- Sharded counters as numbers: the program's operation under way and the document's. -/
import Derived.Test.YtfdgggikjnoghaaDoorShW
namespace Go.Proofs.YtfdgggikjnoghaaDoor.Sk
open Go
structure RU where
  k : Int
  w : Int
  b : Int
  at_ : Int
  sum : Int
def RU.row (r : RU) : List Value := [.int .u8 r.k, .int .i64 r.w, .int .u64 r.b, .int .i64 r.at_, .int .u64 r.sum]
theorem RU.row_len (r : RU) : r.row.length = 5 := rfl
def ended (n : Nat) (r : RU) : Bool := decide (r.at_ ≥ manyOf n r.k)
/-- The program's operation, told by the document's. -/
def prog (n : Nat) (r : RU) : SU := ⟨r.k, r.w, r.b, akOf r.k, abOf r.k r.b, cellOf n r.k r.w + r.at_, lastOf n r.k r.w, r.sum, ended n r⟩
structure RGood (n : Nat) (r : RU) : Prop where
  right : right r.k r.w r.b = true
  at0 : 0 ≤ r.at_
  at1 : r.at_ ≤ manyOf n r.k
/-- Each number of 64 bits. -/
def InU (xs : List Int) : Prop := ∀ x ∈ xs, w64 x = x
theorem w64_eq (x : Int) : w64 x = x % 18446744073709551616 := by simp [w64, IntKind.wrap, IntKind.signed, IntKind.bits]
theorem w64_w64 (x : Int) : w64 (w64 x) = w64 x := by simp only [w64_eq]; omega
theorem inU_put {xs : List Int} {i x : Int} (h : InU xs) (hx : w64 x = x) : InU (putAt xs i x) := fun y hy => by
  rcases List.mem_or_eq_of_mem_set hy with hy | rfl
  · exact h y hy
  · exact hx
theorem inU_rep (n : Nat) : InU (List.replicate n 0) := fun y hy => by
  rw [(List.mem_replicate.1 hy).2]
  decide
theorem inU_see {xs : List Int} (h : InU xs) (i : Int) : w64 (seeAt xs i) = seeAt xs i := by
  unfold seeAt
  rw [List.getD_eq_getElem?_getD]
  cases hx : xs[i.toNat]? with
  | none => rfl
  | some x => exact h x (List.mem_of_getElem? hx)
theorem saw_back {x b : Int} (h : w64 x = x) : w64 (w64 (x + b) - b) = x := by
  simp only [w64_eq] at h ⊢
  omega
theorem rcell_prog {n : Nat} {r : RU} (hg : RGood n r) (he : ended n r = false) : (prog n r).cell = rcell n r.k r.w r.at_ := by
  simp only [prog, cellOf, rcell]
  by_cases h1 : isOne r.k = true
  · simp only [h1, if_true]
    have : isAll r.k = false := by
      simp only [isOne, Bool.or_eq_true, decide_eq_true_eq] at h1
      simp only [isAll, Bool.or_eq_false_iff, decide_eq_false_iff_not]
      omega
    have h2 := of_decide_eq_false he
    simp only [manyOf, this, Bool.false_eq_true, if_false] at h2
    have := hg.at0
    omega
  · simp only [h1, Bool.false_eq_true, if_false]; omega
theorem prog_live {n : Nat} {r : RU} (hn : 0 < n) (hm : n ≤ 9223372036854775807) (hg : RGood n r) : Live n (prog n r) := by
  have h := start_live hg.right hn hm
  have h3 := h.last
  have h4 := hg.at1
  have h5 := hg.at0
  have h7 : (start n r.k r.w r.b).last = lastOf n r.k r.w := rfl
  rw [h7] at h3
  have hlc : lastOf n r.k r.w + 1 - cellOf n r.k r.w = manyOf n r.k ∧ 0 ≤ cellOf n r.k r.w := by
    rcases one_all hg.right with ⟨h1, h2⟩ | ⟨h1, h2⟩
    · have : isAll r.k = false := by
        simp only [isOne, Bool.or_eq_true, decide_eq_true_eq] at h1
        simp only [isAll, Bool.or_eq_false_iff, decide_eq_false_iff_not]
        omega
      simp only [lastOf, cellOf, h1, if_true, manyOf, this, Bool.false_eq_true, if_false]
      exact ⟨by omega, Int.tmod_nonneg _ h2⟩
    · simp only [lastOf, cellOf, h1, Bool.false_eq_true, if_false, manyOf, h2, if_true]
      rw [wrap_same (by omega) (by omega)]
      omega
  refine ⟨⟨?_, ?_⟩, ?_, ?_, h.act⟩
  · simp only [prog]; omega
  · simp only [prog]; omega
  · simp only [prog]; exact h3
  · simp only [prog, ended]
    congr 1
    exact propext ⟨fun _ => by omega, fun _ => by omega⟩
/-- One action: the program's and the document's. -/
def rnext (n : Nat) (xs : List Int) (r : RU) : RU := { r with at_ := IntKind.i64.wrap (r.at_ + 1), sum := rsum r.k r.b r.sum (seeAt xs (rcell n r.k r.w r.at_)) }
theorem kinds_of {k w b : Int} (h : right k w b = true) : k = 1 ∨ k = 2 ∨ k = 3 ∨ k = 4 := by
  rcases one_all h with ⟨h1, _⟩ | ⟨_, h1⟩ <;> simp only [isOne, isAll, Bool.or_eq_true, decide_eq_true_eq] at h1 <;> omega
theorem many_pos {n : Nat} {k : Int} (hn : 0 < n) (hm : n ≤ 65536) : 1 ≤ manyOf n k ∧ manyOf n k ≤ 65536 := by
  unfold manyOf
  split <;> omega
theorem sim {n : Nat} {xs : List Int} {r : RU} (hn : 0 < n) (hm : n ≤ 65536) (hg : RGood n r) (he : ended n r = false) (hu : InU xs) :
    (step xs (prog n r)).xs = putAt xs (rcell n r.k r.w r.at_) (rput r.k r.b (seeAt xs (rcell n r.k r.w r.at_))) ∧ (step xs (prog n r)).u = prog n (rnext n xs r) ∧ (step xs (prog n r)).saw = seeAt xs (rcell n r.k r.w r.at_) ∧ (step xs (prog n r)).put = rput r.k r.b (seeAt xs (rcell n r.k r.w r.at_)) ∧
      RGood n (rnext n xs r) ∧ InU (step xs (prog n r)).xs ∧ 0 ≤ rcell n r.k r.w r.at_ ∧ rcell n r.k r.w r.at_ < n := by
  have hc := rcell_prog hg he
  have hl := prog_live hn (by omega) hg
  obtain ⟨hs1, hs2, hs3⟩ := step_live (xs := xs) hl he (by omega)
  have hx := inU_see hu (rcell n r.k r.w r.at_)
  have h2 := of_decide_eq_false he
  have h0 := hg.at0
  have hmp := many_pos (n := n) (k := r.k) hn hm
  have hw : IntKind.i64.wrap (r.at_ + 1) = r.at_ + 1 := wrap_same (by omega) (by omega)
  have hcl := hl.cell
  have hla := hl.last
  have hwc : IntKind.i64.wrap ((prog n r).cell + 1) = (prog n r).cell + 1 := wrap_same (by omega) (by omega)
  have hsaw : sawOf (akOf r.k) (abOf r.k r.b) (seeAt xs (rcell n r.k r.w r.at_)) = seeAt xs (rcell n r.k r.w r.at_) := by
    unfold sawOf
    split
    · exact saw_back hx
    · rfl
  have hput : putOf (akOf r.k) (abOf r.k r.b) (seeAt xs (rcell n r.k r.w r.at_)) = rput r.k r.b (seeAt xs (rcell n r.k r.w r.at_)) := by
    rcases kinds_of hg.right with h | h | h | h <;> simp [putOf, akOf, abOf, rput, h]
  have hsum : sumOf (akOf r.k) r.sum (seeAt xs (rcell n r.k r.w r.at_)) (rput r.k r.b (seeAt xs (rcell n r.k r.w r.at_))) = rsum r.k r.b r.sum (seeAt xs (rcell n r.k r.w r.at_)) := by
    rcases kinds_of hg.right with h | h | h | h <;> simp [sumOf, akOf, rsum, rput, h]
  have hxs : (step xs (prog n r)).xs = putAt xs (rcell n r.k r.w r.at_) (rput r.k r.b (seeAt xs (rcell n r.k r.w r.at_))) := by
    simp only [step, hc]
    rw [show (prog n r).ak = akOf r.k from rfl, show (prog n r).ab = abOf r.k r.b from rfl, hput]
  have hgood : RGood n (rnext n xs r) := ⟨hg.right, by simp only [rnext, hw]; omega, by simp only [rnext, hw]; omega⟩
  refine ⟨hxs, ?_, ?_, ?_, hgood, ?_, by rw [← hc]; exact hcl.1, by rw [← hc]; omega⟩
  · have e1 : (step xs (prog n r)).u.over = ended n (rnext n xs r) := by
      have a := hs2.over
      have b := (prog_live hn (by omega) hgood).over
      rw [show (prog n (rnext n xs r)).over = ended n (rnext n xs r) from rfl] at b
      rw [a, b]
      congr 1
      have q1 : (step xs (prog n r)).u.cell = (prog n (rnext n xs r)).cell := by
        show IntKind.i64.wrap ((prog n r).cell + 1) = _
        rw [hwc]
        simp only [prog, rnext, hw]; omega
      have q2 : (step xs (prog n r)).u.last = (prog n (rnext n xs r)).last := rfl
      rw [q1, q2]
    have e2 : (step xs (prog n r)).u = { prog n (rnext n xs r) with over := (step xs (prog n r)).u.over } := by
      simp only [step, hc]
      rw [show (prog n r).ak = akOf r.k from rfl, show (prog n r).ab = abOf r.k r.b from rfl, show (prog n r).sum = r.sum from rfl, hput, hsaw, hsum]
      rw [hc] at hwc
      rw [hwc]
      simp only [prog, rnext, hw, SU.mk.injEq, true_and, and_true]
      have := hc
      simp only [prog] at this
      omega
    rw [e2, e1]
    rfl
  · simp only [step, hc]
    exact hsaw
  · simp only [step, hc]
    exact hput
  · rw [hxs]
    refine inU_put hu ?_
    unfold rput
    split
    · exact w64_w64 _
    · split
      · decide
      · exact hx
end Go.Proofs.YtfdgggikjnoghaaDoor.Sk
