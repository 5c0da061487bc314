/- Cells: Do as a contract over the whole list of words. -/
import Derived.Test.YtmihblocomnfjaaDoorCellsQ
set_option linter.unusedSimpArgs false
set_option linter.unusedVariables false
namespace Go.Proofs.YtmihblocomnfjaaDoor
open Go Sy
set_option maxRecDepth 100000
namespace Cq
def w64 (x : Int) : Int := IntKind.u64.wrap x
def okq (kd old new : Int) : Bool := (decide (kd = 1) && decide (old = 0) && decide (new = 0)) || ((decide (kd = 2) || decide (kd = 3) || decide (kd = 4)) && decide (old = 0)) || decide (kd = 5)
def saw (kd new x : Int) : Int := if kd = 3 then w64 (w64 (x + new) - new) else x
def put (kd old new x : Int) : Int := if kd = 1 then x else if kd = 3 then w64 (x + new) else if kd = 5 then (if x = old then new else x) else new
def ok (kd old x : Int) : Bool := if kd = 5 then decide (x = old) else true
theorem w64_eq (x : Int) : w64 x = x % 18446744073709551616 := by simp [w64, IntKind.wrap, IntKind.signed, IntKind.bits]
theorem saw_same {kd new x : Int} (h : w64 x = x) : saw kd new x = x := by
  unfold saw
  split
  · rw [w64_eq] at h
    rw [w64_eq, w64_eq]
    omega
  · rfl
end Cq
def doqZ (kd cell old new : Int) (xs : List Int) : Sy.Ends := match decide (kd = 1) with
  | true => { res := .tuple #[didV 1 cell (seeAt xs cell) (seeAt xs cell) true, .int .i64 0] }
  | false => { res := .tuple #[didV kd cell (Cq.saw kd new (seeAt xs cell)) (Cq.put kd old new (seeAt xs cell)) (Cq.ok kd old (seeAt xs cell)), .int .i64 0], sets := [(0, (putAt xs cell (Cq.put kd old new (seeAt xs cell))).map u64V)] }
def doqP (args : Array Value) : CP := match args.toList with
  | [.pointer (some ⟨cb, 0, none⟩), .agg ⟨[.int .u8 kd, .int .i64 cell, .int .u64 old, .int .u64 new]⟩] =>
    loadsB 0 usesL <| loadSl ⟨cb, 0, none⟩ fun ws n c => loadRow (.slice (some ⟨ws, 0, none⟩) n c) fun _ xs => needs (Cq.okq kd old new && decide (0 ≤ cell) && decide (cell < n)) <| .done 0 fun _ => doqZ kd cell old new xs
  | _ => .fail
theorem doq_ok : (⟨32, doqP⟩ : Contract).Ok Tryd.prog := by
  refine con_start fun args w => ?_
  unfold doqP
  split
  · rename_i cb kd cell old new hargs
    obtain rfl := args_of hargs
    refine good_bools (good_sl fun ws n cap => good_words fun n' xs => good_needs fun hn => good_doneR fun hl hr => ?_)
    simp only [Bool.and_eq_true, decide_eq_true_eq] at hn
    obtain ⟨⟨hk, hc0⟩, hc1⟩ := hn
    have hrow : w.ownsRow 0 109 1 (.slice (some ⟨ws, 0, none⟩) n cap) n' (xs.map u64V) := hr.row _ (List.mem_singleton.2 rfl)
    obtain ⟨e1, e2, _⟩ := owns_at hrow
    subst e1
    rw [List.length_map] at e2
    have hx : cell.toNat < xs.length := by omega
    have hnc : ¬ (n' : Int) ≤ cell := by omega
    have hnz : ¬ cell < 0 := by omega
    have hs : ∀ y, y = seeAt xs cell → xs.set cell.toNat y = xs := fun y hy => by rw [hy]; exact put_same hx
    have hkc : kd = 1 ∧ old = 0 ∧ new = 0 ∨ kd = 2 ∧ old = 0 ∨ kd = 3 ∧ old = 0 ∨ kd = 4 ∧ old = 0 ∨ kd = 5 := by
      simp only [Cq.okq, Bool.or_eq_true, Bool.and_eq_true, decide_eq_true_eq] at hk
      omega
    rcases hkc with ⟨rfl, rfl, rfl⟩ | ⟨rfl, rfl⟩ | ⟨rfl, rfl⟩ | ⟨rfl, rfl⟩ | rfl
    · refine good_walkR host doq1_n (c := doq1C cb ws n' cap n' xs cell) (doq1_1 cb ws n' cap n' xs cell) (doq1_2 cb ws n' cap n' xs cell) ?_ rfl hl hr fun ν => ⟨[], rfl, rfl, ?_, .same _, rfl, ?_⟩
      · simp only [doq1_o, isK_u64, valI_u64, set_u64, map_valU, all_u64, isK_i64, valI_i64, set_i64, isK_bool, valB_bool, set_bool, sadd_eq, smul_eq, Nat.mul_one, Nat.zero_add, Nat.add_zero, List.length_map]
        simp [hc0, hc1, hx, hnc, hnz]
      · simp only [doq1_o, isK_u64, valI_u64, set_u64, map_valU, all_u64, isK_i64, valI_i64, set_i64, isK_bool, valB_bool, set_bool, sadd_eq, smul_eq, Nat.mul_one, Nat.zero_add, Nat.add_zero, List.length_map]
        simp [doqZ, didV, Cq.saw, Cq.put, Cq.ok, seeAt, Cq.w64]
      · simp only [doq1_o, isK_u64, valI_u64, set_u64, map_valU, all_u64, isK_i64, valI_i64, set_i64, isK_bool, valB_bool, set_bool, sadd_eq, smul_eq, Nat.mul_one, Nat.zero_add, Nat.add_zero, List.length_map]
        first | (simp [doqZ, wordsV, rowsNow, rowNow, Cq.put, put_same hx]; done) | simp [doqZ, wordsV, rowsNow, rowNow, Cq.put, seeAt, putAt, Cq.w64]
    · refine good_walkR host doq2_n (c := doq2C cb ws n' cap n' xs cell new) (doq2_1 cb ws n' cap n' xs cell new) (doq2_2 cb ws n' cap n' xs cell new) ?_ rfl hl hr fun ν => ⟨[], rfl, rfl, ?_, .same _, rfl, ?_⟩
      · simp only [doq2_o, isK_u64, valI_u64, set_u64, map_valU, all_u64, isK_i64, valI_i64, set_i64, isK_bool, valB_bool, set_bool, sadd_eq, smul_eq, Nat.mul_one, Nat.zero_add, Nat.add_zero, List.length_map]
        simp [hc0, hc1, hx, hnc, hnz]
      · simp only [doq2_o, isK_u64, valI_u64, set_u64, map_valU, all_u64, isK_i64, valI_i64, set_i64, isK_bool, valB_bool, set_bool, sadd_eq, smul_eq, Nat.mul_one, Nat.zero_add, Nat.add_zero, List.length_map]
        simp [doqZ, didV, Cq.saw, Cq.put, Cq.ok, seeAt, Cq.w64]
      · simp only [doq2_o, isK_u64, valI_u64, set_u64, map_valU, all_u64, isK_i64, valI_i64, set_i64, isK_bool, valB_bool, set_bool, sadd_eq, smul_eq, Nat.mul_one, Nat.zero_add, Nat.add_zero, List.length_map]
        first | (simp [doqZ, wordsV, rowsNow, rowNow, Cq.put, put_same hx]; done) | simp [doqZ, wordsV, rowsNow, rowNow, Cq.put, seeAt, putAt, Cq.w64]
    · refine good_walkR host doq3_n (c := doq3C cb ws n' cap n' xs cell new) (doq3_1 cb ws n' cap n' xs cell new) (doq3_2 cb ws n' cap n' xs cell new) ?_ rfl hl hr fun ν => ⟨[], rfl, rfl, ?_, .same _, rfl, ?_⟩
      · simp only [doq3_o, isK_u64, valI_u64, set_u64, map_valU, all_u64, isK_i64, valI_i64, set_i64, isK_bool, valB_bool, set_bool, sadd_eq, smul_eq, Nat.mul_one, Nat.zero_add, Nat.add_zero, List.length_map]
        simp [hc0, hc1, hx, hnc, hnz]
      · simp only [doq3_o, isK_u64, valI_u64, set_u64, map_valU, all_u64, isK_i64, valI_i64, set_i64, isK_bool, valB_bool, set_bool, sadd_eq, smul_eq, Nat.mul_one, Nat.zero_add, Nat.add_zero, List.length_map]
        simp [doqZ, didV, Cq.saw, Cq.put, Cq.ok, seeAt, Cq.w64]
      · simp only [doq3_o, isK_u64, valI_u64, set_u64, map_valU, all_u64, isK_i64, valI_i64, set_i64, isK_bool, valB_bool, set_bool, sadd_eq, smul_eq, Nat.mul_one, Nat.zero_add, Nat.add_zero, List.length_map]
        first | (simp [doqZ, wordsV, rowsNow, rowNow, Cq.put, put_same hx]; done) | simp [doqZ, wordsV, rowsNow, rowNow, Cq.put, seeAt, putAt, Cq.w64]
    · refine good_walkR host doq4_n (c := doq4C cb ws n' cap n' xs cell new) (doq4_1 cb ws n' cap n' xs cell new) (doq4_2 cb ws n' cap n' xs cell new) ?_ rfl hl hr fun ν => ⟨[], rfl, rfl, ?_, .same _, rfl, ?_⟩
      · simp only [doq4_o, isK_u64, valI_u64, set_u64, map_valU, all_u64, isK_i64, valI_i64, set_i64, isK_bool, valB_bool, set_bool, sadd_eq, smul_eq, Nat.mul_one, Nat.zero_add, Nat.add_zero, List.length_map]
        simp [hc0, hc1, hx, hnc, hnz]
      · simp only [doq4_o, isK_u64, valI_u64, set_u64, map_valU, all_u64, isK_i64, valI_i64, set_i64, isK_bool, valB_bool, set_bool, sadd_eq, smul_eq, Nat.mul_one, Nat.zero_add, Nat.add_zero, List.length_map]
        simp [doqZ, didV, Cq.saw, Cq.put, Cq.ok, seeAt, Cq.w64]
      · simp only [doq4_o, isK_u64, valI_u64, set_u64, map_valU, all_u64, isK_i64, valI_i64, set_i64, isK_bool, valB_bool, set_bool, sadd_eq, smul_eq, Nat.mul_one, Nat.zero_add, Nat.add_zero, List.length_map]
        first | (simp [doqZ, wordsV, rowsNow, rowNow, Cq.put, put_same hx]; done) | simp [doqZ, wordsV, rowsNow, rowNow, Cq.put, seeAt, putAt, Cq.w64]
    · by_cases ho : seeAt xs cell = old
      · refine good_walkR host doq5_n (c := doq5C cb ws n' cap n' xs cell old new) (doq5_1 cb ws n' cap n' xs cell old new) (doq5_2 cb ws n' cap n' xs cell old new) ?_ rfl hl hr fun ν => ⟨[], rfl, rfl, ?_, .same _, rfl, ?_⟩
        · simp only [doq5_o, isK_u64, valI_u64, set_u64, map_valU, all_u64, isK_i64, valI_i64, set_i64, isK_bool, valB_bool, set_bool, sadd_eq, smul_eq, Nat.mul_one, Nat.zero_add, Nat.add_zero, List.length_map]
          rw [show xs.getD cell.toNat 0 = seeAt xs cell from rfl, ho]
          simp [hc0, hc1, hx, hnc, hnz]
        · simp only [doq5_o, isK_u64, valI_u64, set_u64, map_valU, all_u64, isK_i64, valI_i64, set_i64, isK_bool, valB_bool, set_bool, sadd_eq, smul_eq, Nat.mul_one, Nat.zero_add, Nat.add_zero, List.length_map]
          simp [doqZ, didV, Cq.saw, Cq.put, Cq.ok, ho]
        · simp only [doq5_o, isK_u64, valI_u64, set_u64, map_valU, all_u64, isK_i64, valI_i64, set_i64, isK_bool, valB_bool, set_bool, sadd_eq, smul_eq, Nat.mul_one, Nat.zero_add, Nat.add_zero, List.length_map]
          simp [doqZ, wordsV, rowsNow, rowNow, Cq.put, ho, putAt]
      · refine good_walkR host doq6_n (c := doq5C cb ws n' cap n' xs cell old new) (doq6_1 cb ws n' cap n' xs cell old new) (doq6_2 cb ws n' cap n' xs cell old new) ?_ rfl hl hr fun ν => ⟨[], rfl, rfl, ?_, .same _, rfl, ?_⟩
        · simp only [doq6_o, isK_u64, valI_u64, set_u64, map_valU, all_u64, isK_i64, valI_i64, set_i64, isK_bool, valB_bool, set_bool, sadd_eq, smul_eq, Nat.mul_one, Nat.zero_add, Nat.add_zero, List.length_map]
          rw [show xs.getD cell.toNat 0 = seeAt xs cell from rfl]
          simp [hc0, hc1, hx, hnc, hnz, ho]
        · simp only [doq6_o, isK_u64, valI_u64, set_u64, map_valU, all_u64, isK_i64, valI_i64, set_i64, isK_bool, valB_bool, set_bool, sadd_eq, smul_eq, Nat.mul_one, Nat.zero_add, Nat.add_zero, List.length_map]
          rw [show xs.getD cell.toNat 0 = seeAt xs cell from rfl]
          simp [doqZ, didV, Cq.saw, Cq.put, Cq.ok, ho]
        · simp only [doq6_o, isK_u64, valI_u64, set_u64, map_valU, all_u64, isK_i64, valI_i64, set_i64, isK_bool, valB_bool, set_bool, sadd_eq, smul_eq, Nat.mul_one, Nat.zero_add, Nat.add_zero, List.length_map]
          simp [doqZ, wordsV, rowsNow, rowNow, Cq.put, ho, put_same hx]
  · exact good_fail
end Go.Proofs.YtmihblocomnfjaaDoor
