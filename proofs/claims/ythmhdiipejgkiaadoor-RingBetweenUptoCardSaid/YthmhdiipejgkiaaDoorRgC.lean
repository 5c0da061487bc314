/- Rings: New, Add as contracts. -/
import Derived.Test.YthmhdiipejgkiaaDoorRgB
set_option linter.unusedSimpArgs false
set_option linter.unusedVariables false
namespace Go.Proofs.YthmhdiipejgkiaaDoor
open Go Sy
set_option maxRecDepth 100000
theorem made_u64 (n : Nat) : (madeCells (Value.cells (.agg #[.int .u64 0])) (n * 1)).toList = (List.replicate n (0 : Int)).map u64V := by
  have e : Value.cells (.agg #[.int .u64 0]) = #[.int .u64 0] := by kernel_rfl
  rw [e, toList_madeCells_one, Nat.mul_one, List.map_replicate]
  rfl
namespace Rg
theorem pow32 : (2 : Int) ^ min 32 (IntKind.bits .u64) = 4294967296 := rfl
def okNew (n w : Int) : Bool := decide (1 ≤ n) && decide (n ≤ 4096) && decide (1 ≤ w) && decide (w ≤ 1152921504606846976)
end Rg
def ringV (cb n : Nat) (w : Int) : List Value := [ptrV cb, .int .i64 n, .int .i64 w]
def rnewP (args : Array Value) : CP := match args.toList with
  | [.int .i64 n, .int .i64 w] => .test (Rg.okNew n w) fun g => match g with
    | true => .done 3 fun l => match l with
      | [c, cb, ws] => { res := .tuple #[ptrV c, errV 0], news := [(81, [ptrV cb, .int .i64 n, .int .i64 w]), (101, [.slice (some ⟨ws, 0, none⟩) n.toNat n.toNat])], vecs := [wordsV ws n.toNat n.toNat n.toNat ((List.replicate n.toNat (0 : Int)).map u64V)] }
      | _ => { res := nilP }
    | false => .done 0 fun _ => { res := .tuple #[nilP, errV 2] }
  | _ => .fail
theorem rnew_ok : (⟨9, rnewP⟩ : Contract).Ok Tryd.prog := con_start fun args w0 => by
  unfold rnewP
  split
  · rename_i n w hargs
    obtain rfl := args_of hargs
    refine good_test ?_
    by_cases h1 : 1 ≤ n
    · by_cases h2 : n ≤ 4096
      · by_cases h3 : 1 ≤ w
        · by_cases h4 : w ≤ 1152921504606846976
          · have e : Rg.okNew n w = true := by simp [Rg.okNew, h1, h2, h3, h4]
            rw [e]
            exact good_done fun hl => good_walk host rnew1_n (c := rnewC n w) (rnew1_1 n w) (rnew1_2 n w) (by simp [rnew1_o, maxLen]; omega) rfl hl fun ν => ⟨(rnew1_o n w ν).2.news.map Prod.fst ++ (rnew1_o n w ν).2.vecs.filterMap (fun x => x.v.ownBlock), rfl, rfl, rfl, .same _, rfl, by simp only [rnew1_o]; rw [← made_u64]; rfl⟩
          · have e : Rg.okNew n w = false := by simp [Rg.okNew, h4]
            rw [e]
            exact good_done fun hl => good_walk host rnew5_n (c := rnewC n w) (rnew5_1 n w) (rnew5_2 n w) (by simp [rnew5_o, h1, h2, h3, h4] <;> omega) rfl hl fun ν => ⟨[], rfl, rfl, rfl, .same _, rfl, rfl⟩
        · have e : Rg.okNew n w = false := by simp [Rg.okNew, h3]
          rw [e]
          exact good_done fun hl => good_walk host rnew4_n (c := rnewC n w) (rnew4_1 n w) (rnew4_2 n w) (by simp [rnew4_o, h1, h2, h3] <;> omega) rfl hl fun ν => ⟨[], rfl, rfl, rfl, .same _, rfl, rfl⟩
      · have e : Rg.okNew n w = false := by simp [Rg.okNew, h2]
        rw [e]
        exact good_done fun hl => good_walk host rnew3_n (c := rnewC n w) (rnew3_1 n w) (rnew3_2 n w) (by simp [rnew3_o, h1, h2] <;> omega) rfl hl fun ν => ⟨[], rfl, rfl, rfl, .same _, rfl, rfl⟩
    · have e : Rg.okNew n w = false := by simp [Rg.okNew, h1]
      rw [e]
      exact good_done fun hl => good_walk host rnew2_n (c := rnewC n w) (rnew2_1 n w) (rnew2_2 n w) (by simp [rnew2_o, h1] <;> omega) rfl hl fun ν => ⟨[], rfl, rfl, rfl, .same _, rfl, rfl⟩
  · exact good_fail
/-- A ring's own cells, and its words. -/
def loadRing (c : Nat) (k : (cb ws n cap : Nat) → (sl w : Int) → List Int → CP) : CP :=
  loadPtr ⟨c, 0, none⟩ fun cb => loadI64 ⟨c, 1, none⟩ fun sl => loadI64 ⟨c, 2, none⟩ fun w => loadSl ⟨cb, 0, none⟩ fun ws n cap => loadRow (.slice (some ⟨ws, 0, none⟩) n cap) fun _ xs => k cb ws n cap sl w xs
def ringOk (n cap : Nat) (sl w : Int) : Bool := decide (sl = n) && Nat.beq cap n && Nat.blt 0 n && decide (1 ≤ w)
def okTN (t N : Int) : Bool := decide (t < 9223372036854775808) && decide (0 ≤ N)
def raddP (args : Array Value) : CP := match args.toList with
  | [.pointer (some ⟨c, 0, none⟩), .int .i64 t, .int .u64 N] => loadsB 0 usesL <| loadRing c fun _ _ n cap sl w xs => needs (ringOk n cap sl w && okTN t N) <| .done 0 fun _ => { res := errV (Rg.why n w xs t N), sets := [(0, (Rg.put1 n w xs t N).map u64V)] }
  | _ => .fail
theorem radd_ok : (⟨12, raddP⟩ : Contract).Ok Tryd.prog := con_start fun args w0 => by
  unfold raddP
  split
  · rename_i c t N hargs
    obtain rfl := args_of hargs
    refine good_bools (good_ptr fun cb => good_i64 fun sl => good_i64 fun w => good_sl fun ws n cap => good_words fun n' xs => good_needs fun hn => good_doneR fun hl hr => ?_)
    simp only [ringOk, okTN, Bool.and_eq_true, decide_eq_true_eq, Nat.blt_eq, Nat.beq_eq] at hn
    obtain ⟨⟨⟨⟨rfl, rfl⟩, hn0⟩, hw⟩, ht, hN⟩ := hn
    have hrow : w0.ownsRow 0 123 1 (.slice (some ⟨ws, 0, none⟩) cap cap) n' (xs.map u64V) := hr.row _ (List.mem_singleton.2 rfl)
    obtain ⟨e1, e2, _⟩ := owns_at hrow
    subst e1
    rw [List.length_map] at e2
    by_cases h0 : t < 0
    · refine good_walkR hostD radd1_n (c := raddC c cb ws n' w xs t N) (radd1_1 c cb ws n' w xs t N) (radd1_2 c cb ws n' w xs t N) ?_ rfl hl hr fun ν => ⟨[], rfl, rfl, ?_, .same _, rfl, ?_⟩
      · simp [radd1_o, h0]
      · simp [radd1_o, Rg.why, Rg.bad, h0]; rfl
      · simp [radd1_o, Rg.put1, Rg.why, Rg.bad, h0, wordsV, rowsNow, rowNow]
    have h0' : 0 ≤ t := by omega
    have hq := Rg.tdiv_eq h0' ht hw
    have hq0 : 0 ≤ t / w := Rg.div_nonneg h0' hw
    have hw0 : ¬ w = 0 := by omega
    by_cases h1 : t / w > 4294967295
    · refine good_walkR hostD radd2_n (c := raddC c cb ws n' w xs t N) (radd2_1 c cb ws n' w xs t N) (radd2_2 c cb ws n' w xs t N) ?_ rfl hl hr fun ν => ⟨[], rfl, rfl, ?_, .same _, rfl, ?_⟩
      · simp only [radd2_o, hq]
        simp [h0, h1, hw0]; try omega
      · simp [radd2_o, Rg.why, Rg.bad, h1]; rfl
      · simp [radd2_o, Rg.put1, Rg.why, Rg.bad, h1, wordsV, rowsNow, rowNow]
    by_cases h2 : N > 4294967295
    · refine good_walkR hostD radd3_n (c := raddC c cb ws n' w xs t N) (radd3_1 c cb ws n' w xs t N) (radd3_2 c cb ws n' w xs t N) ?_ rfl hl hr fun ν => ⟨[], rfl, rfl, ?_, .same _, rfl, ?_⟩
      · simp only [radd3_o, hq]
        simp [h0, h1, h2, hw0]; try omega
      · simp [radd3_o, Rg.why, Rg.bad, h2]; rfl
      · simp [radd3_o, Rg.put1, Rg.why, Rg.bad, h2, wordsV, rowsNow, rowNow]
    have hbad : Rg.bad w t N = false := by simp [Rg.bad, h0, h1, h2]
    have ha0 := Rg.at_nonneg (k := t / w) hn0
    have ha1 := Rg.at_lt (k := t / w) hn0
    have hm := Rg.tmod_eq (n := n') hq0
    have hx : (Rg.at_ (t / w) n').toNat < xs.length := by omega
    have hnz : ¬ (n' : Int) = 0 := by omega
    obtain ⟨x, hxe⟩ : ∃ x, x = seeAt xs (Rg.at_ (t / w) n') := ⟨_, rfl⟩
    obtain ⟨hh0, hh1⟩ := Rg.held_range (t / w) x
    obtain ⟨hc0, hc1⟩ := Rg.cnt_range x
    have hwN : Rg.w64 N = N := by unfold Rg.w64; omega
    have hwh : Rg.w64 (Rg.held (t / w) x + N) = Rg.held (t / w) x + N := by unfold Rg.w64; omega
    have hwc : Rg.w64 (Rg.cnt x + N) = Rg.cnt x + N := by unfold Rg.w64; omega
    by_cases h3 : Rg.tick x > t / w
    · refine good_walkR hostD radd4_n (c := raddC c cb ws n' w xs t N) (radd4_1 c cb ws n' w xs t N) (radd4_2 c cb ws n' w xs t N) ?_ rfl hl hr fun ν => ⟨[], rfl, rfl, ?_, .same _, rfl, ?_⟩
      · simp only [radd4_o, hq, hm, map_valU, all_u64, Rg.tick_def, ← hxe]
        simp [h0, h1, h2, h3, hw0, hnz, ha0, ha1, Cq.okq]; try omega
      · simp [radd4_o, Rg.why, hbad, Rg.stops, ← hxe, h3]; rfl
      · simp [radd4_o, Rg.put1, Rg.why, hbad, Rg.stops, ← hxe, h3, wordsV, rowsNow, rowNow]
    by_cases h4 : Rg.tick x = t / w
    · have hheld : Rg.held (t / w) x = Rg.cnt x := by simp [Rg.held, h4]
      by_cases h5 : Rg.cnt x + N > 4294967295
      · refine good_walkR hostD radd5_n (c := raddC c cb ws n' w xs t N) (radd5_1 c cb ws n' w xs t N) (radd5_2 c cb ws n' w xs t N) ?_ rfl hl hr fun ν => ⟨[], rfl, rfl, ?_, .same _, rfl, ?_⟩
        · simp only [radd5_o, hq, hm, map_valU, all_u64, Rg.tick_def, Rg.cnt_def, ← hxe]
          simp only [Rg.wrap_u, hwc]
          simp [h0, h1, h2, h4, h5, hw0, hnz, ha0, ha1, Cq.okq]; try omega
        · simp [radd5_o, Rg.why, hbad, Rg.stops, ← hxe, h3, hheld, hwc, h5]; rfl
        · simp [radd5_o, Rg.put1, Rg.why, hbad, Rg.stops, ← hxe, h3, hheld, hwc, h5, wordsV, rowsNow, rowNow]
      · refine good_walkR hostD radd6_n (c := raddC c cb ws n' w xs t N) (radd6_1 c cb ws n' w xs t N) (radd6_2 c cb ws n' w xs t N) ?_ rfl hl hr fun ν => ⟨[], rfl, rfl, ?_, .same _, rfl, ?_⟩
        · simp only [radd6_o, hq, hm, map_valU, all_u64, Rg.tick_def, Rg.cnt_def, ← hxe]
          simp only [Rg.wrap_u, hwc]
          simp [h0, h1, h2, h4, h5, hw0, hnz, ha0, ha1, Cq.okq, Cq.ok]; try omega
        · simp [radd6_o, Rg.why, hbad, Rg.stops, ← hxe, h3, hheld, hwc, h5]; rfl
        · simp only [radd6_o, hq, hm, map_valU, Rg.cnt_def, ← hxe]
          simp [Rg.put1, Rg.why, hbad, Rg.stops, ← hxe, h3, hheld, hwc, h5, wordsV, rowsNow, rowNow, Cq.put, Rg.put, Rg.pow32, Rg.wrap_u]
    · have hheld : Rg.held (t / w) x = 0 := by simp [Rg.held, h4]
      have h5 : ¬ N > 4294967295 := h2
      refine good_walkR hostD radd7_n (c := raddC c cb ws n' w xs t N) (radd7_1 c cb ws n' w xs t N) (radd7_2 c cb ws n' w xs t N) ?_ rfl hl hr fun ν => ⟨[], rfl, rfl, ?_, .same _, rfl, ?_⟩
      · simp only [radd7_o, hq, hm, map_valU, all_u64, Rg.tick_def, Rg.cnt_def, ← hxe]
        simp only [Rg.wrap_u, Int.zero_add, hwN]
        simp [h0, h1, h2, h3, h4, hw0, hnz, ha0, ha1, Cq.okq, Cq.ok]; try omega
      · simp [radd7_o, Rg.why, hbad, Rg.stops, ← hxe, h3, hheld, hwN, h2]; rfl
      · simp only [radd7_o, hq, hm, map_valU, Rg.cnt_def, ← hxe]
        simp [Rg.put1, Rg.why, hbad, Rg.stops, ← hxe, h3, hheld, hwN, h2, wordsV, rowsNow, rowNow, Cq.put, Rg.put, Rg.pow32, Rg.wrap_u]
  · exact good_fail
end Go.Proofs.YthmhdiipejgkiaaDoor
