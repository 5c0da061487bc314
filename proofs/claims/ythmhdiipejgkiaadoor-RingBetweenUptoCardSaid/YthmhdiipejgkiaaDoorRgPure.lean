/- Rings: what the numbers come to. -/
import Derived.Test.YthmhdiipejgkiaaDoorCellsD
set_option linter.unusedSimpArgs false
set_option linter.unusedVariables false
namespace Go.Proofs.YthmhdiipejgkiaaDoor
open Go Sy
set_option maxRecDepth 100000
namespace Rg
def big : Int := 9223372036854775808
def at_ (k : Int) (n : Nat) : Int := k % n
def tick (x : Int) : Int := IntKind.i64.wrap (Int.fdiv x (2 ^ min (Int.toNat 32) (IntKind.bits .u64)))
def cnt (x : Int) : Int := IntKind.u64.wrap ((BitVec.ofInt (IntKind.bits .u64) x &&& BitVec.ofInt (IntKind.bits .u64) 4294967295).toNat : Int)
/-- What a slot holds for a tick. -/
def held (k x : Int) : Int := if tick x = k then cnt x else 0
def w64 (x : Int) : Int := x % 18446744073709551616
theorem wrap_u (x : Int) : IntKind.u64.wrap x = w64 x := by simp [w64, IntKind.wrap, IntKind.signed, IntKind.bits]
def bad (w t N : Int) : Bool := decide (t < 0) || decide (t / w > 4294967295) || decide (N > 4294967295)
def stops (k N x : Int) : Int := if tick x > k then 50 else if w64 (held k x + N) > 4294967295 then 51 else 0
def put (k N x : Int) : Int := w64 (w64 (w64 (w64 k * 4294967296) + held k x) + N)
def why (n : Nat) (w : Int) (xs : List Int) (t N : Int) : Int := if bad w t N = true then 2 else stops (t / w) N (seeAt xs (at_ (t / w) n))
def put1 (n : Nat) (w : Int) (xs : List Int) (t N : Int) : List Int := if why n w xs t N = 0 then putAt xs (at_ (t / w) n) (put (t / w) N (seeAt xs (at_ (t / w) n))) else xs
theorem tdiv_eq {t w : Int} (h0 : 0 ≤ t) (h1 : t < big) (hw : 1 ≤ w) : IntKind.i64.wrap (Int.tdiv t w) = t / w := by
  rw [Int.tdiv_eq_ediv_of_nonneg h0]
  have a := Int.ediv_nonneg h0 (show 0 ≤ w by omega)
  have b := Int.ediv_le_self w h0
  unfold big at h1
  rw [wrap_i64 (by omega) (by omega)]
theorem tmod_eq {k : Int} {n : Nat} (h0 : 0 ≤ k) : Int.tmod k n = at_ k n := Int.tmod_eq_emod_of_nonneg h0
theorem at_nonneg {k : Int} {n : Nat} (hn : 0 < n) : 0 ≤ at_ k n := Int.emod_nonneg _ (by omega)
theorem at_lt {k : Int} {n : Nat} (hn : 0 < n) : at_ k n < n := Int.emod_lt_of_pos _ (by omega)
theorem div_nonneg {t w : Int} (h0 : 0 ≤ t) (hw : 1 ≤ w) : 0 ≤ t / w := Int.ediv_nonneg h0 (by omega)
theorem tick_def (x : Int) : IntKind.i64.wrap (Int.fdiv x (2 ^ min (Int.toNat 32) (IntKind.bits .u64))) = tick x := rfl
theorem cnt_def (x : Int) : IntKind.u64.wrap ((BitVec.ofInt (IntKind.bits .u64) x &&& BitVec.ofInt (IntKind.bits .u64) 4294967295).toNat : Int) = cnt x := rfl
theorem shl_def (x : Int) : IntKind.u64.wrap (x * 2 ^ min (Int.toNat 32) (IntKind.bits .u64)) = w64 (x * 4294967296) := by
  rw [wrap_u]; rfl
theorem cnt_range (x : Int) : 0 ≤ cnt x ∧ cnt x ≤ 4294967295 := by
  unfold cnt
  have h : (BitVec.ofInt (IntKind.bits .u64) x &&& BitVec.ofInt (IntKind.bits .u64) 4294967295).toNat ≤ 4294967295 := by
    rw [BitVec.toNat_and]
    exact Nat.and_le_right
  rw [wrap_u]
  unfold w64
  omega
theorem held_range (k x : Int) : 0 ≤ held k x ∧ held k x ≤ 4294967295 := by
  have := cnt_range x
  unfold held
  split <;> omega
end Rg
end Go.Proofs.YthmhdiipejgkiaaDoor
