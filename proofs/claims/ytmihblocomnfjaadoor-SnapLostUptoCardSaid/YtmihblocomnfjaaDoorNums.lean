/- Numbers in slices: what a walk looked at, what a contract asks. -/
import Derived.Test.YtmihblocomnfjaaDoorSyHost
import Derived.Test.YtmihblocomnfjaaDoorResUse
set_option linter.unusedSimpArgs false
set_option linter.unusedVariables false
namespace Go.Proofs.YtmihblocomnfjaaDoor
open Go Sy
set_option maxRecDepth 100000
namespace Sy
/-- Whole numbers in a list of values. -/
def valU : Value → Int
  | .int .u64 z => z
  | _ => 0
def isU64 : Value → Bool
  | .int .u64 _ => true
  | _ => false
def u64V (z : Int) : Value := .int .u64 z
theorem map_valU (l : List Int) : (l.map u64V).map valU = l := by
  rw [List.map_map]
  exact List.map_id'' (fun _ => rfl) l
theorem all_u64 (l : List Int) : (l.map u64V).all isU64 = true := by simp [isU64, u64V]
theorem map_u64V {l : List Value} (h : l.all isU64 = true) : (l.map valU).map u64V = l := by
  rw [List.map_map]
  refine (List.map_congr_left fun x hx => ?_).trans (List.map_id l)
  have := List.all_eq_true.1 h x hx
  revert this
  unfold isU64
  split
  · intro _; rfl
  · intro h; cases h

theorem owns_at {w : World} {e n n' g c : Nat} {xs : List Value} (h : w.ownsRow 0 e 1 (.slice (some ⟨g, 0, none⟩) n c) n' xs) : n' = n ∧ xs.length = n ∧ ∀ i v, xs[i]? = some v → w.cell? ⟨g, i, none⟩ = some v ∧ w.frozen? ⟨g, i, none⟩ = false := by
  obtain ⟨h0, ⟨h1, _⟩ | ⟨g', cap, cur, h1, _, h3, h4, _, h5, h6⟩⟩ := h
  · cases h1
  · simp only [Value.slice.injEq, Option.some.injEq, Addr.mk.injEq, and_true] at h1
    obtain ⟨rfl, rfl, rfl⟩ := h1
    refine ⟨rfl, by omega, fun i v hv => ?_⟩
    rw [← h6] at hv
    have hi := (List.getElem?_eq_some_iff.1 hv).1
    simp only [List.length_take, Array.length_toList] at hi
    rw [List.getElem?_take_of_lt (by omega)] at hv
    refine ⟨?_, ?_⟩
    · simp only [World.cell?, h3, Option.isSome_none, Bool.false_eq_true, if_false]
      simpa using hv
    · simp [World.frozen?, h3]
theorem owns_set {C : Nat → Nat → Prop} {w w' : World} {e n n' g c i : Nat} {xs : List Value} {v : Value} (h : w.ownsRow 0 e 1 (.slice (some ⟨g, 0, none⟩) n c) n' xs) (hs : Sub C w w') (hC : ∀ j, C g j → j = i) (hi : i < n) (hv : w'.cell? ⟨g, i, none⟩ = some v) :
    w'.ownsRow 0 e 1 (.slice (some ⟨g, 0, none⟩) n c) n' (xs.set i v) := by
  obtain ⟨h0, ⟨h1, _⟩ | ⟨g', cap, cur, h1, hb, h3, h4, h5, h6, h7⟩⟩ := h
  · cases h1
  · simp only [Value.slice.injEq, Option.some.injEq, Addr.mk.injEq, and_true] at h1
    obtain ⟨rfl, rfl, rfl⟩ := h1
    have hl : g < w.heap.size := (Array.getElem?_eq_some_iff.1 h3).1
    obtain ⟨c', e1, e2, e3⟩ := hs.block g hl _ h3
    refine ⟨by simpa using h0, .inr ⟨g, c, c', rfl, hb, e1, h4, h5, by rw [e2]; exact h6, ?_⟩⟩
    have hv' : c'[i]? = some v := by simpa [World.cell?, e1] using hv
    refine List.ext_getElem? fun j => ?_
    by_cases hj : j < n * 1
    · rw [List.getElem?_take_of_lt hj]
      by_cases e : j = i
      · subst e
        rw [List.getElem?_set_self (by omega)]
        simpa using hv'
      · rw [List.getElem?_set_ne (fun hh => e hh.symm), ← h7, List.getElem?_take_of_lt hj]
        have := e3 j (fun hh => e (hC j hh))
        simpa using this
    · rw [List.getElem?_eq_none (by simp; omega), List.getElem?_eq_none (by simp; omega)]

theorem set_self {l : List Value} {i : Nat} {v : Value} (h : l[i]? = some v) : l.set i v = l := by
  refine List.ext_getElem? fun j => ?_
  by_cases e : j = i
  · subst e
    rw [List.getElem?_set_self (List.getElem?_eq_some_iff.1 h).1, h]
  · rw [List.getElem?_set_ne (fun hh => e hh.symm)]
theorem isK_u64 (xs : List Int) (i : Nat) : isK 2 ((xs.map u64V).getD i noV) = decide (i < xs.length) := by
  rw [List.getD_eq_getElem?_getD, List.getElem?_map]
  by_cases h : i < xs.length
  · rw [List.getElem?_eq_getElem h]; simp [h, u64V, isK]
  · rw [List.getElem?_eq_none (by omega)]; simp [h, isK_noV]
theorem valI_u64 (xs : List Int) (i : Nat) : valI ((xs.map u64V).getD i noV) = xs.getD i 0 := by
  rw [List.getD_eq_getElem?_getD, List.getD_eq_getElem?_getD, List.getElem?_map]
  cases xs[i]? <;> rfl
theorem set_u64 (xs : List Int) (i : Nat) (z : Int) : (xs.map u64V).set i (.int .u64 z) = (xs.set i z).map u64V := by rw [List.map_set]; rfl
def i64V (z : Int) : Value := .int .i64 z
theorem isK_i64 (xs : List Int) (i : Nat) : isK 1 ((xs.map i64V).getD i noV) = decide (i < xs.length) := by
  rw [List.getD_eq_getElem?_getD, List.getElem?_map]
  by_cases h : i < xs.length
  · rw [List.getElem?_eq_getElem h]; simp [h, i64V, isK]
  · rw [List.getElem?_eq_none (by omega)]; simp [h, isK_noV]
theorem valI_i64 (xs : List Int) (i : Nat) : valI ((xs.map i64V).getD i noV) = xs.getD i 0 := by
  rw [List.getD_eq_getElem?_getD, List.getD_eq_getElem?_getD, List.getElem?_map]
  cases xs[i]? <;> rfl
theorem set_i64 (xs : List Int) (i : Nat) (z : Int) : (xs.map i64V).set i (.int .i64 z) = (xs.set i z).map i64V := by rw [List.map_set]; rfl
def boolV (z : Bool) : Value := .bool z
theorem isK_bool (xs : List Bool) (i : Nat) : isK 0 ((xs.map boolV).getD i noV) = decide (i < xs.length) := by
  rw [List.getD_eq_getElem?_getD, List.getElem?_map]
  by_cases h : i < xs.length
  · rw [List.getElem?_eq_getElem h]; simp [h, boolV, isK]
  · rw [List.getElem?_eq_none (by omega)]; simp [h, isK_noV]
theorem valB_bool (xs : List Bool) (i : Nat) : valB ((xs.map boolV).getD i noV) = xs.getD i false := by
  rw [List.getD_eq_getElem?_getD, List.getD_eq_getElem?_getD, List.getElem?_map]
  cases xs[i]? <;> rfl
theorem set_bool (xs : List Bool) (i : Nat) (z : Bool) : (xs.map boolV).set i (.bool z) = (xs.set i z).map boolV := by rw [List.map_set]; rfl
section
variable {P : Program} {f : FuncId} {args : Array Value} {w : World} {l : List (Nat × Nat × Value)} {R : List Vec}
/-- A slice of numbers that was handed in. -/
theorem good_nums {e : Nat} {v : Value} {k : Nat → List Int → CP} (h : ∀ n (xs : List Int), ConGoal P f args w l (⟨e, 1, v, n, xs.map u64V⟩ :: R) (k n xs)) : ConGoal P f args w l R (.row v e 1 fun n xs => needs (xs.all isU64) (k n (xs.map valU))) :=
  Sy.good_row fun n xs => good_needs fun hu => by
    have := h n (xs.map valU)
    rw [map_u64V hu] at this
    exact this
end
end Sy
def seeAt (xs : List Int) (i : Int) : Int := xs.getD i.toNat 0
def putAt (xs : List Int) (i x : Int) : List Int := xs.set i.toNat x
theorem put_same {xs : List Int} {i : Int} (h : i.toNat < xs.length) : putAt xs i (seeAt xs i) = xs := by
  unfold putAt seeAt
  rw [List.getD_eq_getElem?_getD, List.getElem?_eq_getElem h]
  exact List.set_getElem_self h
def loadNums (v : Value) (k : Nat → List Int → CP) : CP := .row v 39 1 fun n xs => needs (xs.all isU64) (k n (xs.map valU))
theorem good_u64s {P : Program} {f : FuncId} {args : Array Value} {w : World} {l : List (Nat × Nat × Value)} {R : List Vec} {v : Value} {k : Nat → List Int → CP} (h : ∀ n (xs : List Int), ConGoal P f args w l (⟨39, 1, v, n, xs.map u64V⟩ :: R) (k n xs)) : ConGoal P f args w l R (loadNums v k) := Sy.good_nums h
def slL : Value → List Nat
  | .slice (some a) _ c => [a.block, c]
  | _ => []
def errV (n : Int) : Value := .int .i64 n
def nilP : Value := .pointer none
def ptrV (b : Nat) : Value := .pointer (some ⟨b, 0, none⟩)
def u64sV (so : Option Addr) (m co : Nat) (ys : List Value) : Vec := ⟨39, 1, .slice so m co, m, ys⟩
end Go.Proofs.YtmihblocomnfjaaDoor
