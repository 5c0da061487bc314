/- Rings, the document's side: Words, New as contracts; what is put. -/
import Derived.Test.YthmhdiipejgkiaaDoorRgI
set_option linter.unusedSimpArgs false
set_option linter.unusedVariables false
namespace Go.Proofs.YthmhdiipejgkiaaDoor
open Go Sy Close
set_option maxRecDepth 100000
namespace Rg
theorem or_eq {k b : Int} (hk0 : 0 ≤ k) (hk1 : k ≤ 4294967295) (hb0 : 0 ≤ b) (hb1 : b ≤ 4294967295) :
    IntKind.u64.wrap ((BitVec.ofInt (IntKind.bits .u64) (IntKind.u64.wrap (IntKind.u64.wrap k * 2 ^ min (Int.toNat 32) (IntKind.bits .u64))) ||| BitVec.ofInt (IntKind.bits .u64) b).toNat : Int) = k * 4294967296 + b := by
  obtain ⟨k, rfl⟩ : ∃ k' : Nat, k = k' := ⟨k.toNat, by omega⟩
  obtain ⟨b, rfl⟩ : ∃ b' : Nat, b = b' := ⟨b.toNat, by omega⟩
  have e : IntKind.u64.wrap (IntKind.u64.wrap (k : Int) * 2 ^ min (Int.toNat 32) (IntKind.bits .u64)) = ((k * 4294967296 : Nat) : Int) := by
    rw [shl_def, wrap_u]
    unfold w64
    omega
  have h64 : IntKind.bits .u64 = 64 := rfl
  rw [e, h64, BitVec.ofInt_natCast, BitVec.ofInt_natCast, BitVec.toNat_or, BitVec.toNat_ofNat, BitVec.toNat_ofNat, Nat.mod_eq_of_lt (by omega), Nat.mod_eq_of_lt (by omega)]
  have h := Nat.shiftLeft_add_eq_or_of_lt (i := 32) (b := b) (by omega) k
  rw [Nat.shiftLeft_eq] at h
  rw [show k * 4294967296 = k * 2 ^ 32 by rfl, ← h, wrap_u]
  unfold w64
  omega
theorem put_eq {k N x : Int} (hk0 : 0 ≤ k) (hk1 : k ≤ 4294967295) (hN : 0 ≤ N) (hs : held k x + N ≤ 4294967295) : put k N x = k * 4294967296 + (N + held k x) := by
  have := held_range k x
  unfold put w64
  omega
end Rg
def wordsP (args : Array Value) : CP := match args.toList with
  | [.slice (some ⟨ab, 0, none⟩) an ac, .slice (some ⟨bb, 0, none⟩) bn bc] => needs (Nat.ble an 65536 && Nat.ble bn 65536) <| loadNums (.slice (some ⟨ab, 0, none⟩) an ac) fun _ xs => loadNums (.slice (some ⟨bb, 0, none⟩) bn bc) fun _ ys => .done 0 fun _ => { res := .bool (decide (xs = ys)) }
  | _ => .fail
theorem words_ok : (⟨16, wordsP⟩ : Contract).Ok Tryd.prog := con_start fun args w0 => by
  unfold wordsP
  split
  · rename_i ab an ac bb bn bc hargs
    obtain rfl := args_of hargs
    refine good_needs fun hn => good_u64s fun n' xs => good_u64s fun m' ys => good_doneR fun hl hr => ?_
    simp only [Bool.and_eq_true, Nat.ble_eq] at hn
    obtain ⟨hn0, hn1⟩ := hn
    have hra : w0.ownsRow 0 34 1 (.slice (some ⟨ab, 0, none⟩) an ac) n' (xs.map u64V) := hr.row _ (List.mem_cons_of_mem _ (List.mem_singleton.2 rfl))
    have hrb : w0.ownsRow 0 34 1 (.slice (some ⟨bb, 0, none⟩) bn bc) m' (ys.map u64V) := hr.row _ (List.mem_cons_self ..)
    obtain ⟨e1, e2, _⟩ := owns_at hra
    obtain ⟨e3, e4, _⟩ := owns_at hrb
    subst e1 e3
    rw [List.length_map] at e2 e4
    refine calls_after (X := fun _ _ _ => False) (fn := Tryd.f16) Tryd.func16 rfl (show 2 ≤ Tryd.f16.ntmps by decide) fun a hfr => ?_
    have fin : ∀ {w1 : World} (g : Bool), Res w0 (fun k => ∃ x ∈ [u64S bb m' bc ys, u64S ab n' ac xs], x.v.ownBlock = some k) ([] ++ ([] ++ [])) [] ([] ++ [u64S bb m' bc ys, u64S ab n' ac xs]) w1 → g = decide (xs = ys) → ∃ ls : List Nat, ls.length = 0 ∧ Ending.returned (.bool g) = .returned (({ res := .bool (decide (xs = ys)) } : Sy.Ends)).res ∧ (({ res := .bool (decide (xs = ys)) } : Sy.Ends)).Met ls [u64S bb m' bc ys, u64S ab n' ac xs] w0 w1 := fun {w1} g hs e =>
      ⟨[], rfl, by rw [e], Res.metR (z := ({ res := .bool (decide (xs = ys)) } : Sy.Ends)) (ls := []) (GV := []) (GF := []) (L := []) hs rfl (by simp)⟩
    by_cases hlen : n' = m'
    · subst hlen
      refine Res.segV (F := []) (GF := []) (V := []) host _ (wdA ab n' ac bb n' bc) wdA1_n (wdA1_1 ab n' ac bb n' bc) (wdA1_2 ab n' ac bb n' bc) (Res.rows hr) (Looks.nil w0) (fun _ h => by cases h) no_ros rfl (by simp [wdA1_o]) (fun _ _ => rfl) (fun _ _ => rfl) hfr fun ν j a1 w1 hfr1 hr1 => ?_
      refine loop_after (i := 4) (by kernel_rfl) (fun m a w => ∃ i, m = n' - i ∧ i ≤ n' ∧ xs.take i = ys.take i ∧ Fr Tryd.f16.ntmps (wdK ab n' ac bb n' bc i) a ∧ Res w0 (fun k => ∃ x ∈ [u64S bb n' bc ys, u64S ab n' ac xs], x.v.ownBlock = some k) ([] ++ []) [] ([u64S ab n' ac xs, u64S bb n' bc ys] ++ []) w) n' ⟨0, rfl, Nat.zero_le _, rfl, hfr1, (show Res w0 _ ([] ++ []) [] [u64S bb n' bc ys, u64S ab n' ac xs] w1 from hr1).perm (.refl _) (.swap ..)⟩ ?_
      rintro m a2 w2 ⟨i, rfl, hi, htk, hfr2, hr2⟩ Y hY _
      by_cases hlt : i < n'
      · have ex : xs[i]? = some (xs.getD i 0) := by rw [List.getD_eq_getElem?_getD, List.getElem?_eq_getElem (by omega)]; rfl
        have ey : ys[i]? = some (ys.getD i 0) := by rw [List.getD_eq_getElem?_getD, List.getElem?_eq_getElem (by omega)]; rfl
        have hix : i < xs.length := by omega
        have hiy : i < ys.length := by omega
        by_cases hxy : xs.getD i 0 = ys.getD i 0
        · refine Res.segV (V := [u64S ab n' ac xs, u64S bb n' bc ys]) (GV := []) (GF := []) host _ (wdR ab n' ac bb n' bc xs ys i) wdR1_n (wdR1_1 ab n' ac bb n' bc xs ys i) (wdR1_2 ab n' ac bb n' bc xs ys i) hr2 (Looks.nil w0) (fun _ h => by cases h) no_ros rfl (by
            intro ν j
            simp only [wdR1_o, isK_u64, valI_u64, set_u64, map_valU, all_u64, isK_i64, valI_i64, set_i64, isK_bool, valB_bool, set_bool, sadd_eq, smul_eq, Nat.mul_one, Nat.zero_add, Nat.add_zero, List.length_map, Int.toNat_natCast]
            rw [hxy]
            simp [hlt, hix, hiy]) (fun _ _ => rfl) (fun _ _ => rfl) hfr2 fun ν j a3 w3 hfr3 hr3 => ?_
          have ew : IntKind.i64.wrap ((i : Int) + 1) = ((i + 1 : Nat) : Int) := by rw [wrap_i64 (by omega) (by omega)]; simp
          simp only [wdR1_o, ew] at hfr3
          refine hY _ a3 w3 (show n' - (i + 1) < n' - i by omega) ⟨i + 1, rfl, hlt, ?_, hfr3, hr3⟩
          rw [List.take_add_one, List.take_add_one, htk, ex, ey, hxy]
        · refine Res.segV (V := [u64S ab n' ac xs, u64S bb n' bc ys]) (GV := []) (GF := []) host _ (wdR ab n' ac bb n' bc xs ys i) wdR2_n (wdR2_1 ab n' ac bb n' bc xs ys i) (wdR2_2 ab n' ac bb n' bc xs ys i) hr2 (Looks.nil w0) (fun _ h => by cases h) no_ros rfl (by
            intro ν j
            simp only [wdR2_o, isK_u64, valI_u64, set_u64, map_valU, all_u64, isK_i64, valI_i64, set_i64, isK_bool, valB_bool, set_bool, sadd_eq, smul_eq, Nat.mul_one, Nat.zero_add, Nat.add_zero, List.length_map, Int.toNat_natCast]
            have hb : (xs.getD i 0 != ys.getD i 0) = true := bne_iff_ne.2 hxy
            simp only [hb]
            simp [hlt, hix, hiy]) (fun _ _ => rfl) (fun _ _ => rfl) hfr2 fun ν j a3 w3 hfr3 hr3 => ?_
          refine fin false (hr3.perm (.refl _) (.swap ..)) (decide_eq_false fun e => hxy ?_).symm
          rw [e]
      · have e : i = n' := by omega
        subst e
        refine Res.segV (V := [u64S ab i ac xs, u64S bb i bc ys]) (GV := []) (GF := []) host _ (wdR ab i ac bb i bc xs ys i) wdR3_n (wdR3_1 ab i ac bb i bc xs ys i) (wdR3_2 ab i ac bb i bc xs ys i) hr2 (Looks.nil w0) (fun _ h => by cases h) no_ros rfl (by simp [wdR3_o]) (fun _ _ => rfl) (fun _ _ => rfl) hfr2 fun ν j a3 w3 hfr3 hr3 => ?_
        refine fin true (hr3.perm (.refl _) (.swap ..)) (decide_eq_true ?_).symm
        rw [List.take_of_length_le (by omega), List.take_of_length_le (by omega)] at htk
        exact htk
    · refine Res.segV (F := []) (GF := []) (V := []) host _ (wdA ab n' ac bb m' bc) wdA2_n (wdA2_1 ab n' ac bb m' bc) (wdA2_2 ab n' ac bb m' bc) (Res.rows hr) (Looks.nil w0) (fun _ h => by cases h) no_ros rfl (by simp [wdA2_o]; omega) (fun _ _ => rfl) (fun _ _ => rfl) hfr fun ν j a1 w1 hfr1 hr1 => ?_
      refine fin false hr1 (decide_eq_false fun e => hlen ?_).symm
      rw [← e2, ← e4, e]
  · exact good_fail
def fnewP (args : Array Value) : CP := match args.toList with
  | [.int .i64 n, .int .i64 w] => .test (Rg.okNew n w) fun g => match g with
    | true => .done 1 fun l => match l with
      | [ws] => { res := .tuple #[bookV ws n.toNat n.toNat w, errV 0], vecs := [u64sV (some ⟨ws, 0, none⟩) n.toNat n.toNat ((List.replicate n.toNat (0 : Int)).map u64V)] }
      | _ => { res := nilP }
    | false => .done 0 fun _ => { res := .tuple #[.agg #[.int .i64 0, .slice none 0 0], errV 2] }
  | _ => .fail
theorem made_nums (n : Nat) : (madeCells (Value.cells (.int .u64 0)) (n * 1)).toList = (List.replicate n (0 : Int)).map u64V := by
  rw [show (Value.cells (.int .u64 0)) = #[.int .u64 0] from rfl, toList_madeCells_one, Nat.mul_one, List.map_replicate]
  rfl
theorem fnew_ok : (⟨10, fnewP⟩ : Contract).Ok Tryd.prog := con_start fun args w0 => by
  unfold fnewP
  split
  · rename_i n w hargs
    obtain rfl := args_of hargs
    refine good_test ?_
    by_cases h1 : 1 ≤ n
    · by_cases h2 : n ≤ 4096
      · by_cases h3 : 1 ≤ w
        · by_cases h4 : w ≤ 1152921504606846976
          · have e : Rg.okNew n w = true := by simp [Rg.okNew, h1, h2, h3, h4]
            rw [e]
            exact good_done fun hl => good_walk host fnew1_n (c := fnewC n w) (fnew1_1 n w) (fnew1_2 n w) (by simp [fnew1_o, maxLen]; omega) rfl hl fun ν => ⟨(fnew1_o n w ν).2.vecs.filterMap (fun x => x.v.ownBlock), rfl, rfl, rfl, .same _, rfl, by simp only [fnew1_o]; rw [← made_nums]; rfl⟩
          · have e : Rg.okNew n w = false := by simp [Rg.okNew, h4]
            rw [e]
            exact good_done fun hl => good_walk host fnew5_n (c := fnewC n w) (fnew5_1 n w) (fnew5_2 n w) (by simp [fnew5_o, h1, h2, h3, h4] <;> omega) rfl hl fun ν => ⟨[], rfl, rfl, rfl, .same _, rfl, rfl⟩
        · have e : Rg.okNew n w = false := by simp [Rg.okNew, h3]
          rw [e]
          exact good_done fun hl => good_walk host fnew4_n (c := fnewC n w) (fnew4_1 n w) (fnew4_2 n w) (by simp [fnew4_o, h1, h2, h3] <;> omega) rfl hl fun ν => ⟨[], rfl, rfl, rfl, .same _, rfl, rfl⟩
      · have e : Rg.okNew n w = false := by simp [Rg.okNew, h2]
        rw [e]
        exact good_done fun hl => good_walk host fnew3_n (c := fnewC n w) (fnew3_1 n w) (fnew3_2 n w) (by simp [fnew3_o, h1, h2] <;> omega) rfl hl fun ν => ⟨[], rfl, rfl, rfl, .same _, rfl, rfl⟩
    · have e : Rg.okNew n w = false := by simp [Rg.okNew, h1]
      rw [e]
      exact good_done fun hl => good_walk host fnew2_n (c := fnewC n w) (fnew2_1 n w) (fnew2_2 n w) (by simp [fnew2_o, h1] <;> omega) rfl hl fun ν => ⟨[], rfl, rfl, rfl, .same _, rfl, rfl⟩
  · exact good_fail
end Go.Proofs.YthmhdiipejgkiaaDoor
