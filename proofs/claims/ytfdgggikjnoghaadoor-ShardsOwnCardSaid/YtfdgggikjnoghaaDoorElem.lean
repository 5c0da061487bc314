/- Elements of slices of numbers that a walk looked at: what they are. -/
import Derived.Test.YtfdgggikjnoghaaDoorShT
import Derived.Test.YtfdgggikjnoghaaDoorResUse
namespace Go.Proofs.YtfdgggikjnoghaaDoor
open Go Sy
set_option maxRecDepth 100000
namespace Sy
theorem isK_u64 (xs : List Int) (i : Nat) : isK 2 ((xs.map u64V).getD i noV) = decide (i < xs.length) := by
  rw [List.getD_eq_getElem?_getD, List.getElem?_map]
  by_cases h : i < xs.length
  · rw [List.getElem?_eq_getElem h]; simp [h, u64V, isK]
  · rw [List.getElem?_eq_none (by omega)]; simp [h, isK_noV]
theorem valI_u64 (xs : List Int) (i : Nat) : valI ((xs.map u64V).getD i noV) = xs.getD i 0 := by
  rw [List.getD_eq_getElem?_getD, List.getD_eq_getElem?_getD, List.getElem?_map]
  cases xs[i]? <;> rfl
theorem set_u64 (xs : List Int) (i : Nat) (z : Int) : (xs.map u64V).set i (.int .u64 z) = (xs.set i z).map u64V := by rw [List.map_set]; rfl
def i64V (z : Int) : Value := .int .i64 z
theorem isK_i64 (xs : List Int) (i : Nat) : isK 1 ((xs.map i64V).getD i noV) = decide (i < xs.length) := by
  rw [List.getD_eq_getElem?_getD, List.getElem?_map]
  by_cases h : i < xs.length
  · rw [List.getElem?_eq_getElem h]; simp [h, i64V, isK]
  · rw [List.getElem?_eq_none (by omega)]; simp [h, isK_noV]
theorem valI_i64 (xs : List Int) (i : Nat) : valI ((xs.map i64V).getD i noV) = xs.getD i 0 := by
  rw [List.getD_eq_getElem?_getD, List.getD_eq_getElem?_getD, List.getElem?_map]
  cases xs[i]? <;> rfl
theorem set_i64 (xs : List Int) (i : Nat) (z : Int) : (xs.map i64V).set i (.int .i64 z) = (xs.set i z).map i64V := by rw [List.map_set]; rfl
def boolV (z : Bool) : Value := .bool z
theorem isK_bool (xs : List Bool) (i : Nat) : isK 0 ((xs.map boolV).getD i noV) = decide (i < xs.length) := by
  rw [List.getD_eq_getElem?_getD, List.getElem?_map]
  by_cases h : i < xs.length
  · rw [List.getElem?_eq_getElem h]; simp [h, boolV, isK]
  · rw [List.getElem?_eq_none (by omega)]; simp [h, isK_noV]
theorem valB_bool (xs : List Bool) (i : Nat) : valB ((xs.map boolV).getD i noV) = xs.getD i false := by
  rw [List.getD_eq_getElem?_getD, List.getD_eq_getElem?_getD, List.getElem?_map]
  cases xs[i]? <;> rfl
theorem set_bool (xs : List Bool) (i : Nat) (z : Bool) : (xs.map boolV).set i (.bool z) = (xs.set i z).map boolV := by rw [List.map_set]; rfl
section
variable {P : Program} {f : FuncId} {args : Array Value} {w : World} {l : List (Nat × Nat × Value)} {R : List Vec}
/-- A slice of numbers that was handed in. -/
theorem good_nums {e : Nat} {v : Value} {k : Nat → List Int → CP} (h : ∀ n (xs : List Int), ConGoal P f args w l (⟨e, 1, v, n, xs.map u64V⟩ :: R) (k n xs)) : ConGoal P f args w l R (.row v e 1 fun n xs => needs (xs.all isU64) (k n (xs.map valU))) :=
  Sy.good_row fun n xs => good_needs fun hu => by
    have := h n (xs.map valU)
    rw [map_u64V hu] at this
    exact this
end
end Sy
theorem good_u64s {P : Program} {f : FuncId} {args : Array Value} {w : World} {l : List (Nat × Nat × Value)} {R : List Vec} {v : Value} {k : Nat → List Int → CP} (h : ∀ n (xs : List Int), ConGoal P f args w l (⟨32, 1, v, n, xs.map u64V⟩ :: R) (k n xs)) : ConGoal P f args w l R (loadNums v k) := Sy.good_nums h
theorem good_words {P : Program} {f : FuncId} {args : Array Value} {w : World} {l : List (Nat × Nat × Value)} {R : List Vec} {v : Value} {k : Nat → List Int → CP} (h : ∀ n (xs : List Int), ConGoal P f args w l (⟨91, 1, v, n, xs.map u64V⟩ :: R) (k n xs)) : ConGoal P f args w l R (loadRow v k) := Sy.good_nums h
end Go.Proofs.YtfdgggikjnoghaaDoor
