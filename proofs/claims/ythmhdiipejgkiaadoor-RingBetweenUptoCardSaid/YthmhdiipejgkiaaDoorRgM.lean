/- Rings: the document's Do as a contract. -/
import Derived.Test.YthmhdiipejgkiaaDoorRgL
set_option linter.unusedSimpArgs false
set_option linter.unusedVariables false
namespace Go.Proofs.YthmhdiipejgkiaaDoor
open Go Sy Close
set_option maxRecDepth 100000
def faddZ (n : Nat) (w t N : Int) (xs : List Int) (g c : Nat) : Sy.Ends := { res := .tuple #[bookV g n c w, .int .u64 (N + Rg.held (t / w) (seeAt xs (Rg.at_ (t / w) n))), errV 0], vecs := [u64sV (some ⟨g, 0, none⟩) n c ((Rg.put1 n w xs t N).map u64V)] }
def fdoP (args : Array Value) : CP := match args.toList with
  | [.agg ⟨[.int .i64 w, .slice (some ⟨ws, 0, none⟩) n cap]⟩, .agg ⟨[.int .u8 k, .int .i64 t, .int .u64 N]⟩] => needs (bookOk n w t && decide (0 ≤ N)) <| loadNums (.slice (some ⟨ws, 0, none⟩) n cap) fun _ xs => .test (decide (k = 1)) fun g => match g with
    | true => .test (decide (Rg.why n w xs t N = 0)) fun g => match g with
      | true => .done 2 fun l => match l with
        | [g, c] => faddZ n w t N xs g c
        | _ => { res := nilP }
      | false => .done 0 fun _ => { res := .tuple #[bookV ws n cap w, .int .u64 0, errV (Rg.why n w xs t N)] }
    | false => needs (decide (k = 2) && decide (N = 0)) <| .test (Rg.bad w t 0) fun g => match g with
      | true => .done 0 fun _ => { res := .tuple #[bookV ws n cap w, .int .u64 0, errV 2] }
      | false => .done 0 fun _ => { res := .tuple #[bookV ws n cap w, .int .u64 (Rg.tot (Rg.sumR n w t xs)), errV 0] }
  | _ => .fail
namespace Rg
theorem tot_w64 (l : List Int) : w64 (tot l) = tot l := by
  rcases List.eq_nil_or_concat l with rfl | ⟨l, x, rfl⟩
  · rfl
  · rw [List.concat_eq_append, tot_snoc]
    unfold w64
    omega
end Rg
/-- A sum of the document's under way. -/
def fsS (ws n cap : Nat) (w : Int) (r o p : Nat) (t q : Int) (xs : List Int) : Nat → List (Nat × TypeId × List Value)
  | 0 => fsB ws n cap w r o p t false 0 false 0
  | i + 1 => fsB ws n cap w r o p t true (Rg.k0 q n + ((i + 1 : Nat) : Int)) (decide (i + 1 = Rg.many q n)) (Rg.tot (Rg.slots xs n (Rg.k0 q n) (i + 1)))
theorem fsS_pos {ws n cap : Nat} {w : Int} {r o p : Nat} {t q : Int} {xs : List Int} : ∀ {i : Nat}, 0 < i → fsS ws n cap w r o p t q xs i = fsB ws n cap w r o p t true (Rg.k0 q n + i) (decide (i = Rg.many q n)) (Rg.tot (Rg.slots xs n (Rg.k0 q n) i))
  | _ + 1, _ => rfl
theorem fdo_ok : (⟨11, fdoP⟩ : Contract).Ok Tryd.prog := con_start fun args w0 => by
  unfold fdoP
  split
  · rename_i w ws n cap k t N hargs
    obtain rfl := args_of hargs
    refine good_needs fun hn => good_u64s fun n' xs => good_test ?_
    simp only [bookOk, Bool.and_eq_true, decide_eq_true_eq, Nat.blt_eq, Nat.ble_eq] at hn
    obtain ⟨⟨⟨⟨hw, hn0⟩, hn1⟩, ht⟩, hN⟩ := hn
    have hw0 : ¬ w = 0 := by omega
    have rows : ∀ {l : List (Nat × Nat × Value)}, RowsOk w0 l [(⟨34, 1, .slice (some ⟨ws, 0, none⟩) n cap, n', xs.map u64V⟩ : Vec)] → n' = n ∧ xs.length = n := fun hr => by
      obtain ⟨e1, e2, _⟩ := owns_at (hr.row _ (List.mem_singleton.2 rfl))
      rw [List.length_map] at e2
      exact ⟨e1, e2⟩
    by_cases hk1 : k = 1
    · subst hk1
      rw [decide_eq_true (show (1 : Int) = 1 from rfl)]
      refine good_test ?_
      obtain ⟨x, hxe⟩ : ∃ x, x = seeAt xs (Rg.at_ (t / w) n) := ⟨_, rfl⟩
      have hnz : ¬ (n : Int) = 0 := by omega
      have hnz' : ¬ n = 0 := by omega
      by_cases h0 : t < 0
      · have hwhy : Rg.why n w xs t N = 2 := by simp [Rg.why, Rg.bad, h0]
        rw [hwhy]
        refine good_doneR fun hl hr => ?_
        obtain ⟨e1, e2⟩ := rows hr
        subst e1
        refine good_walkR host fadd1_n (c := faddC ws n' cap w xs t N) (fadd1_1 ws n' cap w xs t N) (fadd1_2 ws n' cap w xs t N) ?_ rfl hl hr fun ν => ⟨[], rfl, rfl, rfl, .same _, rfl, rfl⟩
        simp [fadd1_o, h0]
      have h0' : 0 ≤ t := by omega
      have hq := Rg.tdiv_eq h0' ht hw
      have hq0 : 0 ≤ t / w := Rg.div_nonneg h0' hw
      by_cases h1 : t / w > 4294967295
      · have hwhy : Rg.why n w xs t N = 2 := by simp [Rg.why, Rg.bad, h1]
        rw [hwhy]
        refine good_doneR fun hl hr => ?_
        obtain ⟨e1, e2⟩ := rows hr
        subst e1
        refine good_walkR host fadd2_n (c := faddC ws n' cap w xs t N) (fadd2_1 ws n' cap w xs t N) (fadd2_2 ws n' cap w xs t N) ?_ rfl hl hr fun ν => ⟨[], rfl, rfl, rfl, .same _, rfl, rfl⟩
        simp only [fadd2_o, hq]
        simp [h0, h1, hw0]; try omega
      by_cases h2 : N > 4294967295
      · have hwhy : Rg.why n w xs t N = 2 := by simp [Rg.why, Rg.bad, h2]
        rw [hwhy]
        refine good_doneR fun hl hr => ?_
        obtain ⟨e1, e2⟩ := rows hr
        subst e1
        refine good_walkR host fadd3_n (c := faddC ws n' cap w xs t N) (fadd3_1 ws n' cap w xs t N) (fadd3_2 ws n' cap w xs t N) ?_ rfl hl hr fun ν => ⟨[], rfl, rfl, rfl, .same _, rfl, rfl⟩
        simp only [fadd3_o, hq]
        simp [h0, h1, h2, hw0]; try omega
      have hbad : Rg.bad w t N = false := by simp [Rg.bad, h0, h1, h2]
      have hwhy0 : Rg.why n w xs t N = Rg.stops (t / w) N x := by simp [Rg.why, hbad, hxe]
      have ha0 := Rg.at_nonneg (k := t / w) hn0
      have ha1 := Rg.at_lt (k := t / w) hn0
      have hm := Rg.tmod_eq (n := n) hq0
      have hxd : xs.getD (Rg.at_ (t / w) n).toNat 0 = x := hxe.symm
      obtain ⟨hh0, hh1⟩ := Rg.held_range (t / w) x
      obtain ⟨hc0, hc1⟩ := Rg.cnt_range x
      have hwc : Rg.w64 (Rg.cnt x + N) = Rg.cnt x + N := by unfold Rg.w64; omega
      have hwc' : Rg.w64 (N + Rg.cnt x) = N + Rg.cnt x := by unfold Rg.w64; omega
      have hwN : Rg.w64 N = N := by unfold Rg.w64; omega
      by_cases h3 : Rg.tick x > t / w
      · have hwhy : Rg.why n w xs t N = 50 := by rw [hwhy0]; simp [Rg.stops, h3]
        rw [hwhy]
        refine good_doneR fun hl hr => ?_
        obtain ⟨e1, e2⟩ := rows hr
        subst e1
        have hx : (Rg.at_ (t / w) n').toNat < xs.length := by omega
        refine good_walkR host fadd4_n (c := faddC ws n' cap w xs t N) (fadd4_1 ws n' cap w xs t N) (fadd4_2 ws n' cap w xs t N) ?_ rfl hl hr fun ν => ⟨[], rfl, rfl, rfl, .same _, rfl, rfl⟩
        simp only [fadd4_o, hq, hm, isK_u64, valI_u64, set_u64, map_valU, all_u64, isK_i64, valI_i64, set_i64, isK_bool, valB_bool, set_bool, sadd_eq, smul_eq, Nat.mul_one, Nat.zero_add, Nat.add_zero, List.length_map, hxd, Rg.tick_def]
        simp [h0, h1, h2, h3, hw0, hnz, ha0, ha1, hx]; try omega
      by_cases h4 : Rg.tick x = t / w
      · have hheld : Rg.held (t / w) x = Rg.cnt x := by simp [Rg.held, h4]
        by_cases h5 : Rg.cnt x + N > 4294967295
        · have hwhy : Rg.why n w xs t N = 51 := by rw [hwhy0]; simp [Rg.stops, h3, hheld, hwc, h5]
          rw [hwhy]
          refine good_doneR fun hl hr => ?_
          obtain ⟨e1, e2⟩ := rows hr
          subst e1
          have hx : (Rg.at_ (t / w) n').toNat < xs.length := by omega
          refine good_walkR host fadd5_n (c := faddC ws n' cap w xs t N) (fadd5_1 ws n' cap w xs t N) (fadd5_2 ws n' cap w xs t N) ?_ rfl hl hr fun ν => ⟨[], rfl, rfl, rfl, .same _, rfl, rfl⟩
          simp only [fadd5_o, hq, hm, isK_u64, valI_u64, set_u64, map_valU, all_u64, isK_i64, valI_i64, set_i64, isK_bool, valB_bool, set_bool, sadd_eq, smul_eq, Nat.mul_one, Nat.zero_add, Nat.add_zero, List.length_map, hxd, Rg.tick_def, Rg.cnt_def]
          simp only [Rg.wrap_u, hwc]
          simp [h0, h1, h2, h4, h5, hw0, hnz, ha0, ha1, hx]; try omega
        · have hwhy : Rg.why n w xs t N = 0 := by rw [hwhy0]; simp [Rg.stops, h3, hheld, hwc, h5]
          rw [hwhy]
          refine good_doneR fun hl hr => ?_
          obtain ⟨e1, e2⟩ := rows hr
          subst e1
          have hx : (Rg.at_ (t / w) n').toNat < xs.length := by omega
          have hor := Rg.or_eq (k := t / w) (b := N + Rg.cnt x) hq0 (by omega) (by omega) (by omega)
          have hput := Rg.put_eq (k := t / w) (N := N) (x := x) hq0 (by omega) hN (by rw [hheld]; omega)
          refine good_walkR host fadd6_n (c := faddC ws n' cap w xs t N) (fadd6_1 ws n' cap w xs t N) (fadd6_2 ws n' cap w xs t N) ?_ rfl hl hr fun ν => ⟨((fadd6_o ws n' cap w xs t N ν).2.vecs.getLast?.map fun x => slL x.v).getD [], rfl, rfl, ?_, .same _, rfl, ?_⟩
          · simp only [fadd6_o, hq, hm, isK_u64, valI_u64, set_u64, map_valU, all_u64, isK_i64, valI_i64, set_i64, isK_bool, valB_bool, set_bool, sadd_eq, smul_eq, Nat.mul_one, Nat.zero_add, Nat.add_zero, List.length_map, hxd, Rg.tick_def, Rg.cnt_def]
            simp only [Rg.wrap_u, hwc]
            simp [h0, h1, h2, h4, h5, hw0, hnz, ha0, ha1, hx, hn0, e2, maxLen, oneC, u64V]
            exact ⟨by omega, decide_eq_true (by omega), by omega⟩
          · simp only [fadd6_o, hq, hm, isK_u64, valI_u64, set_u64, map_valU, all_u64, isK_i64, valI_i64, set_i64, isK_bool, valB_bool, set_bool, sadd_eq, smul_eq, Nat.mul_one, Nat.zero_add, Nat.add_zero, List.length_map, hxd, Rg.cnt_def]
            simp only [Rg.wrap_u, hwc']
            simp [faddZ, slL, bookV, hheld, ← hxe, errV]
          · simp only [fadd6_o, hq, hm, isK_u64, valI_u64, set_u64, map_valU, all_u64, isK_i64, valI_i64, set_i64, isK_bool, valB_bool, set_bool, sadd_eq, smul_eq, Nat.mul_one, Nat.zero_add, Nat.add_zero, List.length_map, hxd, Rg.cnt_def]
            simp only [show IntKind.u64.wrap (N + Rg.cnt x) = N + Rg.cnt x by rw [Rg.wrap_u, hwc'], hor]
            simp [faddZ, slL, u64S, u64sV, rowsNow, rowNow, Rg.put1, hwhy, ← hxe, hput, hheld, putAt]
      · have hheld : Rg.held (t / w) x = 0 := by simp [Rg.held, h4]
        have hwhy : Rg.why n w xs t N = 0 := by rw [hwhy0]; simp [Rg.stops, h3, hheld, hwN, h2]
        rw [hwhy]
        refine good_doneR fun hl hr => ?_
        obtain ⟨e1, e2⟩ := rows hr
        subst e1
        have hx : (Rg.at_ (t / w) n').toNat < xs.length := by omega
        have hor := Rg.or_eq (k := t / w) (b := N) hq0 (by omega) (by omega) (by omega)
        have hput := Rg.put_eq (k := t / w) (N := N) (x := x) hq0 (by omega) hN (by rw [hheld]; omega)
        refine good_walkR host fadd7_n (c := faddC ws n' cap w xs t N) (fadd7_1 ws n' cap w xs t N) (fadd7_2 ws n' cap w xs t N) ?_ rfl hl hr fun ν => ⟨((fadd7_o ws n' cap w xs t N ν).2.vecs.getLast?.map fun x => slL x.v).getD [], rfl, rfl, ?_, .same _, rfl, ?_⟩
        · simp only [fadd7_o, hq, hm, isK_u64, valI_u64, set_u64, map_valU, all_u64, isK_i64, valI_i64, set_i64, isK_bool, valB_bool, set_bool, sadd_eq, smul_eq, Nat.mul_one, Nat.zero_add, Nat.add_zero, List.length_map, hxd, Rg.tick_def, Rg.cnt_def]
          simp [h0, h1, h2, h3, h4, hw0, hnz, ha0, ha1, hx, hn0, e2, maxLen, oneC, u64V]
          exact ⟨by omega, decide_eq_true (by omega), by omega⟩
        · simp only [fadd7_o, hq, hm, isK_u64, valI_u64, set_u64, map_valU, all_u64, isK_i64, valI_i64, set_i64, isK_bool, valB_bool, set_bool, sadd_eq, smul_eq, Nat.mul_one, Nat.zero_add, Nat.add_zero, List.length_map, hxd, Rg.cnt_def]
          simp [faddZ, slL, bookV, hheld, ← hxe, errV]
        · simp only [fadd7_o, hq, hm, isK_u64, valI_u64, set_u64, map_valU, all_u64, isK_i64, valI_i64, set_i64, isK_bool, valB_bool, set_bool, sadd_eq, smul_eq, Nat.mul_one, Nat.zero_add, Nat.add_zero, List.length_map, hxd, Rg.cnt_def, hor]
          simp [faddZ, slL, u64S, u64sV, rowsNow, rowNow, Rg.put1, hwhy, ← hxe, hput, hheld, putAt]
    · rw [decide_eq_false hk1]
      refine good_needs fun hn => good_test ?_
      simp only [Bool.and_eq_true, decide_eq_true_eq] at hn
      obtain ⟨rfl, rfl⟩ := hn
      have hnz : ¬ (n : Int) = 0 := by omega
      cases hbad : Rg.bad w t 0 with
      | true =>
        refine good_doneR fun hl hr => ?_
        obtain ⟨e1, e2⟩ := rows hr
        subst e1
        by_cases h0 : t < 0
        · exact good_walkR host fsum1_n (c := fsumC ws n' cap w xs t) (fsum1_1 ws n' cap w xs t) (fsum1_2 ws n' cap w xs t) (by simp [fsum1_o, h0]) rfl hl hr fun ν => ⟨[], rfl, rfl, rfl, .same _, rfl, rfl⟩
        · have h1 : t / w > 4294967295 := by
            simp only [Rg.bad, Bool.or_eq_true, decide_eq_true_eq] at hbad
            omega
          have hq := Rg.tdiv_eq (show 0 ≤ t by omega) ht hw
          exact good_walkR host fsum2_n (c := fsumC ws n' cap w xs t) (fsum2_1 ws n' cap w xs t) (fsum2_2 ws n' cap w xs t) (by simp only [fsum2_o, hq]; simp [h0, h1, hw0] <;> omega) rfl hl hr fun ν => ⟨[], rfl, rfl, rfl, .same _, rfl, rfl⟩
      | false =>
        refine good_doneR fun hl hr => ?_
        obtain ⟨e1, e2⟩ := rows hr
        subst e1
        simp only [Rg.bad, Bool.or_eq_false_iff, decide_eq_false_iff_not] at hbad
        obtain ⟨⟨h0, h1⟩, _⟩ := hbad
        have h0' : 0 ≤ t := by omega
        have hq := Rg.tdiv_eq h0' ht hw
        have hq0 : 0 ≤ t / w := Rg.div_nonneg h0' hw
        obtain ⟨q, hqe⟩ : ∃ q, q = t / w := ⟨_, rfl⟩
        rw [← hqe] at hq hq0 h1
        obtain ⟨hk0, hk1, hk2⟩ := Rg.k0_le hq0 hn0
        have hmn : Rg.many q n' ≤ n' ∧ (Rg.many q n' : Int) = q - Rg.k0 q n' + 1 := by unfold Rg.many; omega
        have hmax := max_k0 (n := n') hq0 (by omega) hn1
        refine calls_after (X := fun _ _ _ => False) (fn := Tryd.f11) Tryd.func11 rfl (show 2 ≤ Tryd.f11.ntmps by decide) fun a hfr => ?_
        refine Res.segV (F := []) (GF := []) (V := []) host _ (fsA ws n' cap w t) fsA1_n (fsA1_1 ws n' cap w t) (fsA1_2 ws n' cap w t) (Res.rows hr) (Looks.nil w0) (fun _ h => by cases h) no_ros rfl (by simp only [fsA1_o, hq]; simp [h0, h1, hw0]) (fun _ _ => rfl) (fun _ _ => rfl) hfr fun ν j a1 w1 hfr1 hr1 => ?_
        obtain ⟨r, o, p, q1, q2, q3⟩ : ∃ r o p, (fsA1_o ws n' cap w t ν j).2.1 = fsK r o p ∧ (fsA1_o ws n' cap w t ν j).2.2.news = (fsB ws n' cap w r o p t false 0 false 0).reverse ∧ (fsA1_o ws n' cap w t ν j).2.2.vecs = [] := ⟨_, _, _, rfl, rfl, rfl⟩
        rw [q1] at hfr1
        rw [q2, q3] at hr1
        refine loop_after (i := 5) (by kernel_rfl) (fun d a w2 => ∃ i : Nat, d = Rg.many q n' - i ∧ i ≤ Rg.many q n' ∧ Fr Tryd.f11.ntmps (fsK r o p) a ∧
          Res w0 (fun k => ∃ x ∈ [u64S ws n' cap xs], x.v.ownBlock = some k) (fsS ws n' cap w r o p t q xs i ++ []) [] ([u64S ws n' cap xs] ++ []) w2) (Rg.many q n') ⟨0, rfl, Nat.zero_le _, hfr1, ?_⟩ ?_
        · refine hr1.perm ?_ (.refl _)
          exact (List.reverse_perm _).append_right _
        rintro d a2 w2 ⟨i, rfl, hi, hfr2, hr2⟩ Y hY _
        have hm := Rg.tmod_eq (n := n') (show 0 ≤ Rg.k0 q n' + i by omega)
        have ha0 := Rg.at_nonneg (k := Rg.k0 q n' + i) hn0
        have ha1 := Rg.at_lt (k := Rg.k0 q n' + i) hn0
        have hx : (Rg.at_ (Rg.k0 q n' + i) n').toNat < xs.length := by omega
        obtain ⟨x, hxe⟩ : ∃ x, x = seeAt xs (Rg.at_ (Rg.k0 q n' + i) n') := ⟨_, rfl⟩
        have hxd : xs.getD (Rg.at_ (Rg.k0 q n' + i) n').toNat 0 = x := hxe.symm
        have hsl : Rg.slot xs n' (Rg.k0 q n' + i) = Rg.held (Rg.k0 q n' + i) x := by rw [hxe]; rfl
        have htot : Rg.tot (Rg.slots xs n' (Rg.k0 q n') (i + 1)) = Rg.w64 (Rg.tot (Rg.slots xs n' (Rg.k0 q n') i) + Rg.held (Rg.k0 q n' + i) x) := by rw [Rg.slots_succ, Rg.tot_snoc, hsl]
        have hs64 := Rg.tot_w64 (Rg.slots xs n' (Rg.k0 q n') i)
        have hw1 : IntKind.i64.wrap (Rg.k0 q n' + i + 1) = Rg.k0 q n' + ((i + 1 : Nat) : Int) := by rw [wrap_i64 (by omega) (by omega)]; omega
        have hdec : i < Rg.many q n' → decide (Rg.k0 q n' + ((i + 1 : Nat) : Int) > q) = decide (i + 1 = Rg.many q n') := fun _ => by
          rw [decide_eq_decide]
          constructor <;> intro h <;> omega
        rcases Nat.eq_zero_or_pos i with rfl | hpos
        ·
          have hlt : 0 < Rg.many q n' := by omega
          simp only [Int.natCast_zero, Int.add_zero] at hm ha0 ha1 hx hxd hsl htot hw1
          rw [show Rg.tot (Rg.slots xs n' (Rg.k0 q n') 0) = 0 from rfl] at htot
          by_cases hk : Rg.tick x = Rg.k0 q n'
          · have hh : Rg.held (Rg.k0 q n') x = Rg.cnt x := by simp [Rg.held, hk]
            refine Res.segV (GF := []) (V := [u64S ws n' cap xs]) (GV := []) host _ (fsF ws n' cap w xs r o p t) fsF1_n (fsF1_1 ws n' cap w xs r o p t) (fsF1_2 ws n' cap w xs r o p t) hr2 (Looks.nil w0) (fun _ h => by cases h) no_ros rfl ?_ (fun _ _ => rfl) (fun _ _ => rfl) hfr2 fun ν j a3 w3 hfr3 hr3 => ?_
            · simp only [fsF1_o, hq, hmax, hm, isK_u64, valI_u64, set_u64, map_valU, all_u64, isK_i64, valI_i64, set_i64, isK_bool, valB_bool, set_bool, sadd_eq, smul_eq, Nat.mul_one, Nat.zero_add, Nat.add_zero, List.length_map, hxd, Rg.tick_def, Rg.cnt_def]
              simp [hk, hx, hnz, ha0, ha1, hw0]
              try omega
            · obtain ⟨o', ho⟩ : ∃ o', o' = fsF1_o ws n' cap w xs r o p t ν j := ⟨_, rfl⟩
              rw [← ho] at hfr3 hr3
              obtain ⟨p1, p2, p3, p4⟩ : o'.2.2.vecs = [u64S ws n' cap xs] ∧ o'.2.1 = fsK r o p ∧ o'.2.2.news = [] ∧ o'.2.2.blocks = fsS ws n' cap w r o p t q xs (0 + 1) := by
                rw [ho, fsS, ← hdec hlt, htot, hh]
                simp only [fsF1_o, hq, hmax, hm, isK_u64, valI_u64, set_u64, map_valU, all_u64, isK_i64, valI_i64, set_i64, isK_bool, valB_bool, set_bool, sadd_eq, smul_eq, Nat.mul_one, Nat.zero_add, Nat.add_zero, List.length_map, hxd, Rg.cnt_def, hw1]
                simp only [Rg.wrap_u]
                exact ⟨rfl, rfl, trivial, rfl⟩
              rw [p2] at hfr3
              rw [p1, p3, p4] at hr3
              exact hY _ a3 w3 (by omega) ⟨0 + 1, rfl, hlt, hfr3, hr3⟩
          · have hh : Rg.held (Rg.k0 q n') x = 0 := by simp [Rg.held, hk]
            refine Res.segV (GF := []) (V := [u64S ws n' cap xs]) (GV := []) host _ (fsF ws n' cap w xs r o p t) fsF2_n (fsF2_1 ws n' cap w xs r o p t) (fsF2_2 ws n' cap w xs r o p t) hr2 (Looks.nil w0) (fun _ h => by cases h) no_ros rfl ?_ (fun _ _ => rfl) (fun _ _ => rfl) hfr2 fun ν j a3 w3 hfr3 hr3 => ?_
            · simp only [fsF2_o, hq, hmax, hm, isK_u64, valI_u64, set_u64, map_valU, all_u64, isK_i64, valI_i64, set_i64, isK_bool, valB_bool, set_bool, sadd_eq, smul_eq, Nat.mul_one, Nat.zero_add, Nat.add_zero, List.length_map, hxd, Rg.tick_def, Rg.cnt_def]
              simp [hk, hx, hnz, ha0, ha1, hw0]
              try omega
            · obtain ⟨o', ho⟩ : ∃ o', o' = fsF2_o ws n' cap w xs r o p t ν j := ⟨_, rfl⟩
              rw [← ho] at hfr3 hr3
              obtain ⟨p1, p2, p3, p4⟩ : o'.2.2.vecs = [u64S ws n' cap xs] ∧ o'.2.1 = fsK r o p ∧ o'.2.2.news = [] ∧ o'.2.2.blocks = fsS ws n' cap w r o p t q xs (0 + 1) := by
                rw [ho, fsS, ← hdec hlt, htot, hh]
                simp only [fsF2_o, hq, hmax, hm, isK_u64, valI_u64, set_u64, map_valU, all_u64, isK_i64, valI_i64, set_i64, isK_bool, valB_bool, set_bool, sadd_eq, smul_eq, Nat.mul_one, Nat.zero_add, Nat.add_zero, List.length_map, hxd, Rg.cnt_def, hw1]
                simp only [Int.add_zero, show Rg.w64 0 = 0 from rfl]
                exact ⟨rfl, rfl, trivial, rfl⟩
              rw [p2] at hfr3
              rw [p1, p3, p4] at hr3
              exact hY _ a3 w3 (by omega) ⟨0 + 1, rfl, hlt, hfr3, hr3⟩
        · rw [fsS_pos hpos] at hr2
          by_cases hlt : i < Rg.many q n'
          · have hne : decide (i = Rg.many q n') = false := decide_eq_false (by omega)
            rw [hne] at hr2
            by_cases hk : Rg.tick x = Rg.k0 q n' + i
            · have hh : Rg.held (Rg.k0 q n' + i) x = Rg.cnt x := by simp only [Rg.held, hk, if_true]
              refine Res.segV (GF := []) (V := [u64S ws n' cap xs]) (GV := []) host _ (fsN ws n' cap w xs r o p t (Rg.k0 q n' + i) (Rg.tot (Rg.slots xs n' (Rg.k0 q n') i))) fsN1_n (fsN1_1 ws n' cap w xs r o p t (Rg.k0 q n' + i) (Rg.tot (Rg.slots xs n' (Rg.k0 q n') i))) (fsN1_2 ws n' cap w xs r o p t (Rg.k0 q n' + i) (Rg.tot (Rg.slots xs n' (Rg.k0 q n') i))) hr2 (Looks.nil w0) (fun _ h => by cases h) no_ros rfl ?_ (fun _ _ => rfl) (fun _ _ => rfl) hfr2 fun ν j a3 w3 hfr3 hr3 => ?_
              · simp only [fsN1_o, hq, hm, isK_u64, valI_u64, set_u64, map_valU, all_u64, isK_i64, valI_i64, set_i64, isK_bool, valB_bool, set_bool, sadd_eq, smul_eq, Nat.mul_one, Nat.zero_add, Nat.add_zero, List.length_map, hxd, Rg.tick_def, Rg.cnt_def]
                simp [hk, hx, hnz, ha0, ha1, hw0]
                try omega
              · obtain ⟨o', ho⟩ : ∃ o', o' = fsN1_o ws n' cap w xs r o p t (Rg.k0 q n' + i) (Rg.tot (Rg.slots xs n' (Rg.k0 q n') i)) ν j := ⟨_, rfl⟩
                rw [← ho] at hfr3 hr3
                obtain ⟨p1, p2, p3, p4⟩ : o'.2.2.vecs = [u64S ws n' cap xs] ∧ o'.2.1 = fsK r o p ∧ o'.2.2.news = [] ∧ o'.2.2.blocks = fsS ws n' cap w r o p t q xs (i + 1) := by
                  rw [ho, fsS, ← hdec hlt, htot, hh]
                  simp only [fsN1_o, hq, hm, isK_u64, valI_u64, set_u64, map_valU, all_u64, isK_i64, valI_i64, set_i64, isK_bool, valB_bool, set_bool, sadd_eq, smul_eq, Nat.mul_one, Nat.zero_add, Nat.add_zero, List.length_map, hxd, Rg.cnt_def, hw1]
                  simp only [Rg.wrap_u]
                  exact ⟨rfl, rfl, trivial, rfl⟩
                rw [p2] at hfr3
                rw [p1, p3, p4] at hr3
                exact hY _ a3 w3 (by omega) ⟨i + 1, rfl, hlt, hfr3, hr3⟩
            · have hh : Rg.held (Rg.k0 q n' + i) x = 0 := by simp only [Rg.held, hk, if_false]
              refine Res.segV (GF := []) (V := [u64S ws n' cap xs]) (GV := []) host _ (fsN ws n' cap w xs r o p t (Rg.k0 q n' + i) (Rg.tot (Rg.slots xs n' (Rg.k0 q n') i))) fsN2_n (fsN2_1 ws n' cap w xs r o p t (Rg.k0 q n' + i) (Rg.tot (Rg.slots xs n' (Rg.k0 q n') i))) (fsN2_2 ws n' cap w xs r o p t (Rg.k0 q n' + i) (Rg.tot (Rg.slots xs n' (Rg.k0 q n') i))) hr2 (Looks.nil w0) (fun _ h => by cases h) no_ros rfl ?_ (fun _ _ => rfl) (fun _ _ => rfl) hfr2 fun ν j a3 w3 hfr3 hr3 => ?_
              · simp only [fsN2_o, hq, hm, isK_u64, valI_u64, set_u64, map_valU, all_u64, isK_i64, valI_i64, set_i64, isK_bool, valB_bool, set_bool, sadd_eq, smul_eq, Nat.mul_one, Nat.zero_add, Nat.add_zero, List.length_map, hxd, Rg.tick_def, Rg.cnt_def]
                simp [hk, hx, hnz, ha0, ha1, hw0]
                try omega
              · obtain ⟨o', ho⟩ : ∃ o', o' = fsN2_o ws n' cap w xs r o p t (Rg.k0 q n' + i) (Rg.tot (Rg.slots xs n' (Rg.k0 q n') i)) ν j := ⟨_, rfl⟩
                rw [← ho] at hfr3 hr3
                obtain ⟨p1, p2, p3, p4⟩ : o'.2.2.vecs = [u64S ws n' cap xs] ∧ o'.2.1 = fsK r o p ∧ o'.2.2.news = [] ∧ o'.2.2.blocks = fsS ws n' cap w r o p t q xs (i + 1) := by
                  rw [ho, fsS, ← hdec hlt, htot, hh]
                  simp only [fsN2_o, hq, hm, isK_u64, valI_u64, set_u64, map_valU, all_u64, isK_i64, valI_i64, set_i64, isK_bool, valB_bool, set_bool, sadd_eq, smul_eq, Nat.mul_one, Nat.zero_add, Nat.add_zero, List.length_map, hxd, Rg.cnt_def, hw1]
                  simp only [Int.add_zero, hs64]
                  exact ⟨rfl, rfl, trivial, rfl⟩
                rw [p2] at hfr3
                rw [p1, p3, p4] at hr3
                exact hY _ a3 w3 (by omega) ⟨i + 1, rfl, hlt, hfr3, hr3⟩
          · have hem : i = Rg.many q n' := by omega
            rw [decide_eq_true hem] at hr2
            obtain ⟨S, hS⟩ : ∃ S, S = Rg.tot (Rg.slots xs n' (Rg.k0 q n') i) := ⟨_, rfl⟩
            rw [← hS] at hr2
            refine Res.segV (GF := []) (V := []) (GV := [u64S ws n' cap xs]) host _ (fsX ws n' cap w r o p t (Rg.k0 q n' + (i : Int)) S) fsX1_n (fsX1_1 ws n' cap w r o p t (Rg.k0 q n' + (i : Int)) S) (fsX1_2 ws n' cap w r o p t (Rg.k0 q n' + (i : Int)) S) (by rw [List.append_nil] at hr2; exact hr2) (Looks.nil w0) (fun _ h => by cases h) no_ros rfl (by simp [fsX1_o]) (fun _ _ => rfl) (fun _ _ => rfl) hfr2 fun ν j a3 w3 hfr3 hr3 => ?_
            have hS2 : Rg.tot (Rg.sumR n' w t xs) = S := by rw [hS, Rg.sumR, ← hqe, ← hem]
            refine ⟨[], rfl, by rw [hS2]; rfl, ?_⟩
            exact Res.metR (z := ({ res := .tuple #[bookV ws n' cap w, .int .u64 (Rg.tot (Rg.sumR n' w t xs)), errV 0] } : Sy.Ends)) (ls := []) (GV := []) (GF := (fsX1_o ws n' cap w r o p t (Rg.k0 q n' + (i : Int)) S ν j).2.2.blocks) (L := []) (hr3.perm (by simp [fsX1_o, newsB]) (.refl _)) rfl (by simp)
  · exact good_fail
end Go.Proofs.YthmhdiipejgkiaaDoor
