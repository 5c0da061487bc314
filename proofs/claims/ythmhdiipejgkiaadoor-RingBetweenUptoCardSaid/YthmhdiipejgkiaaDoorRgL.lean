/- Rings: the document's Each as a contract. -/
import Derived.Test.YthmhdiipejgkiaaDoorRgK
set_option linter.unusedSimpArgs false
set_option linter.unusedVariables false
namespace Go.Proofs.YthmhdiipejgkiaaDoor
open Go Sy Close
set_option maxRecDepth 100000
def bookOk (n : Nat) (w t : Int) : Bool := decide (1 ≤ w) && Nat.blt 0 n && Nat.ble n 4096 && decide (t < 9223372036854775808)
def feachP (args : Array Value) : CP := match args.toList with
  | [.agg ⟨[.int .i64 w, .slice (some ⟨ws, 0, none⟩) n cap]⟩, .int .i64 t] => needs (bookOk n w t) <| loadNums (.slice (some ⟨ws, 0, none⟩) n cap) fun _ xs => .test (Rg.bad w t 0) fun g => match g with
    | true => .done 0 fun _ => { res := .tuple #[.slice none 0 0, errV 2] }
    | false => .done 2 fun l => match l with
      | [g, c] => reachZ n w t xs g c
      | _ => { res := nilP }
  | _ => .fail
theorem max_k0 {q : Int} {n : Nat} (h0 : 0 ≤ q) (h1 : q ≤ 4294967295) (hn : n ≤ 4096) : (if IntKind.i64.wrap (IntKind.i64.wrap (q - (n : Int)) + 1) > 0 then IntKind.i64.wrap (IntKind.i64.wrap (q - (n : Int)) + 1) else 0) = Rg.k0 q n := by
  rw [wrap_i64 (x := q - n) (by omega) (by omega), wrap_i64 (by omega) (by omega)]
  unfold Rg.k0
  split <;> split <;> omega
theorem feach_ok : (⟨15, feachP⟩ : Contract).Ok Tryd.prog := con_start fun args w0 => by
  unfold feachP
  split
  · rename_i w ws n cap t hargs
    obtain rfl := args_of hargs
    refine good_needs fun hn => good_u64s fun n' xs => good_test ?_
    simp only [bookOk, Bool.and_eq_true, decide_eq_true_eq, Nat.blt_eq, Nat.ble_eq] at hn
    obtain ⟨⟨⟨hw, hn0⟩, hn1⟩, ht⟩ := hn
    have hw0 : ¬ w = 0 := by omega
    have rows : ∀ {l : List (Nat × Nat × Value)}, RowsOk w0 l [(⟨34, 1, .slice (some ⟨ws, 0, none⟩) n cap, n', xs.map u64V⟩ : Vec)] → n' = n ∧ xs.length = n := fun hr => by
      obtain ⟨e1, e2, _⟩ := owns_at (hr.row _ (List.mem_singleton.2 rfl))
      rw [List.length_map] at e2
      exact ⟨e1, e2⟩
    cases hbad : Rg.bad w t 0 with
    | true =>
      refine good_doneR fun hl hr => ?_
      obtain ⟨e1, e2⟩ := rows hr
      subst e1
      have fin : ∀ {w1 : World}, Res w0 (fun k => ∃ x ∈ [u64S ws n' cap xs], x.v.ownBlock = some k) ([] ++ ([] ++ [])) [] ([] ++ [u64S ws n' cap xs]) w1 → (({ res := .tuple #[.slice none 0 0, errV 2] } : Sy.Ends)).Met [] [u64S ws n' cap xs] w0 w1 := fun {w1} hs => Res.metR (z := ({ res := .tuple #[.slice none 0 0, errV 2] } : Sy.Ends)) (ls := []) (GV := []) (GF := []) (L := []) hs rfl (by simp)
      by_cases h0 : t < 0
      · exact good_walkR host feach1_n (c := feachC ws n' cap w xs t) (feach1_1 ws n' cap w xs t) (feach1_2 ws n' cap w xs t) (by simp [feach1_o, h0]) rfl hl hr fun ν => ⟨[], rfl, rfl, rfl, .same _, rfl, rfl⟩
      · have h1 : t / w > 4294967295 := by
          simp only [Rg.bad, Bool.or_eq_true, decide_eq_true_eq] at hbad
          omega
        have hq := Rg.tdiv_eq (show 0 ≤ t by omega) ht hw
        exact good_walkR host feach2_n (c := feachC ws n' cap w xs t) (feach2_1 ws n' cap w xs t) (feach2_2 ws n' cap w xs t) (by simp only [feach2_o, hq]; simp [h0, h1, hw0] <;> omega) rfl hl hr fun ν => ⟨[], rfl, rfl, rfl, .same _, rfl, rfl⟩
    | false =>
      refine good_doneR fun hl hr => ?_
      obtain ⟨e1, e2⟩ := rows hr
      subst e1
      simp only [Rg.bad, Bool.or_eq_false_iff, decide_eq_false_iff_not] at hbad
      obtain ⟨⟨h0, h1⟩, _⟩ := hbad
      have h0' : 0 ≤ t := by omega
      have hq := Rg.tdiv_eq h0' ht hw
      have hq0 : 0 ≤ t / w := Rg.div_nonneg h0' hw
      obtain ⟨q, hqe⟩ : ∃ q, q = t / w := ⟨_, rfl⟩
      rw [← hqe] at hq hq0 h1
      obtain ⟨hk0, hk1, hk2⟩ := Rg.k0_le hq0 hn0
      have hmn : Rg.many q n' ≤ n' ∧ (Rg.many q n' : Int) = q - Rg.k0 q n' + 1 := by unfold Rg.many; omega
      have hmax := max_k0 (n := n') hq0 (by omega) hn1
      refine calls_after (X := fun _ _ _ => False) (fn := Tryd.f15) Tryd.func15 rfl (show 2 ≤ Tryd.f15.ntmps by decide) fun a hfr => ?_
      refine Res.segV (F := []) (GF := []) (V := []) host _ (feA ws n' cap w t) feA1_n (feA1_1 ws n' cap w t) (feA1_2 ws n' cap w t) (Res.rows hr) (Looks.nil w0) (fun _ h => by cases h) no_ros rfl (by simp only [feA1_o, hq]; simp [h0, h1, hw0]) (fun _ _ => rfl) (fun _ _ => rfl) hfr fun ν j a1 w1 hfr1 hr1 => ?_
      obtain ⟨r, q1, q2, q3⟩ : ∃ r, (feA1_o ws n' cap w t ν j).2.1 = feK r none 0 0 q (Rg.k0 q n') ∧ (feA1_o ws n' cap w t ν j).2.2.news = feB ws n' cap w r ∧ (feA1_o ws n' cap w t ν j).2.2.vecs = [] := by
        simp only [feA1_o, hq, hmax]
        exact ⟨_, rfl, rfl, trivial⟩
      rw [q1] at hfr1
      rw [q2, q3] at hr1
      have hr1' := res_nil hr1 34 1
      refine loop_after (i := 7) (by kernel_rfl) (fun d a w2 => ∃ (i : Nat) (so : Option Addr) (co : Nat), d = Rg.many q n' - i ∧ i ≤ Rg.many q n' ∧ Fr Tryd.f15.ntmps (feK r so i co q (Rg.k0 q n' + i)) a ∧
        Res w0 (fun k => ∃ x ∈ [u64S ws n' cap xs], x.v.ownBlock = some k) (feB ws n' cap w r ++ []) [] ([u64S ws n' cap xs, u64sV so i co ((Rg.slots xs n' (Rg.k0 q n') i).map u64V)] ++ []) w2) (Rg.many q n') ⟨0, none, 0, rfl, Nat.zero_le _, by simpa using hfr1, ?_⟩ ?_
      · exact hr1'.perm (.refl _) (.swap ..)
      rintro d a2 w2 ⟨i, so, co, rfl, hi, hfr2, hr2⟩ Y hY _
      by_cases hlt : i < Rg.many q n'
      · have hm := Rg.tmod_eq (n := n') (show 0 ≤ Rg.k0 q n' + i by omega)
        have ha0 := Rg.at_nonneg (k := Rg.k0 q n' + i) hn0
        have ha1 := Rg.at_lt (k := Rg.k0 q n' + i) hn0
        have hnz : ¬ (n' : Int) = 0 := by omega
        have hle : Rg.k0 q n' + i ≤ q := by omega
        have hx : (Rg.at_ (Rg.k0 q n' + i) n').toNat < xs.length := by omega
        obtain ⟨x, hxe⟩ : ∃ x, x = seeAt xs (Rg.at_ (Rg.k0 q n' + i) n') := ⟨_, rfl⟩
        have hxd : xs.getD (Rg.at_ (Rg.k0 q n' + i) n').toNat 0 = x := hxe.symm
        have hsl : Rg.slot xs n' (Rg.k0 q n' + i) = Rg.held (Rg.k0 q n' + i) x := by rw [hxe]; rfl
        obtain ⟨es, hes⟩ : ∃ es, es = Rg.slots xs n' (Rg.k0 q n') i := ⟨_, rfl⟩
        have hsn : Rg.slots xs n' (Rg.k0 q n') (i + 1) = es ++ [Rg.held (Rg.k0 q n' + i) x] := by rw [Rg.slots_succ, hsl, hes]
        have hw1 : IntKind.i64.wrap (Rg.k0 q n' + i + 1) = Rg.k0 q n' + ((i + 1 : Nat) : Int) := by rw [wrap_i64 (by omega) (by omega)]; omega
        rw [← hes] at hr2
        by_cases hk : Rg.tick x = Rg.k0 q n' + i
        · have hh : Rg.held (Rg.k0 q n' + i) x = Rg.cnt x := by simp [Rg.held, hk]
          refine Res.segV (GF := []) (V := [u64S ws n' cap xs, u64sV so i co (es.map u64V)]) (GV := []) host _ (feR ws n' cap w xs r so i co es q (Rg.k0 q n' + i)) feR1_n (feR1_1 ws n' cap w xs r so i co es q (Rg.k0 q n' + i)) (feR1_2 ws n' cap w xs r so i co es q (Rg.k0 q n' + i)) hr2 (Looks.nil w0) (fun _ h => by cases h) no_ros rfl ?_ (fun _ _ => rfl) (fun _ _ => rfl) hfr2 fun ν j a3 w3 hfr3 hr3 => ?_
          · simp only [feR1_o, hm, isK_u64, valI_u64, set_u64, map_valU, all_u64, isK_i64, valI_i64, set_i64, isK_bool, valB_bool, set_bool, sadd_eq, smul_eq, Nat.mul_one, Nat.zero_add, Nat.add_zero, List.length_map, hxd, Rg.tick_def, Rg.cnt_def]
            simp [hk, hle, hx, hnz, ha0, ha1, addV_eq, u64sV, maxLen]
            try omega
          · obtain ⟨o, ho⟩ : ∃ o, o = feR1_o ws n' cap w xs r so i co es q (Rg.k0 q n' + i) ν j := ⟨_, rfl⟩
            rw [← ho] at hfr3 hr3
            obtain ⟨g, cap', p1, p2, p3, p4⟩ : ∃ g cap', o.2.2.vecs = [u64S ws n' cap xs, u64sV (some ⟨g, 0, none⟩) (i + 1) cap' (es.map u64V ++ [u64V (Rg.held (Rg.k0 q n' + i) x)])] ∧ o.2.1 = feK r (some ⟨g, 0, none⟩) (i + 1) cap' q (Rg.k0 q n' + ((i + 1 : Nat) : Int)) ∧ o.2.2.news = [] ∧ o.2.2.blocks = feB ws n' cap w r := by
              rw [ho, hh]
              simp only [feR1_o, hm, isK_u64, valI_u64, set_u64, map_valU, all_u64, isK_i64, valI_i64, set_i64, isK_bool, valB_bool, set_bool, sadd_eq, smul_eq, Nat.mul_one, Nat.zero_add, Nat.add_zero, List.length_map, hxd, Rg.cnt_def, hw1, addV_eq]
              exact ⟨_, _, rfl, rfl, trivial, rfl⟩
            rw [p2] at hfr3
            rw [p1, p3, p4] at hr3
            refine hY _ a3 w3 (by omega) ⟨i + 1, some ⟨g, 0, none⟩, cap', rfl, hlt, hfr3, ?_⟩
            rw [hsn, List.map_append]
            exact hr3
        · have hh : Rg.held (Rg.k0 q n' + i) x = 0 := by simp [Rg.held, hk]
          refine Res.segV (GF := []) (V := [u64S ws n' cap xs, u64sV so i co (es.map u64V)]) (GV := []) host _ (feR ws n' cap w xs r so i co es q (Rg.k0 q n' + i)) feR2_n (feR2_1 ws n' cap w xs r so i co es q (Rg.k0 q n' + i)) (feR2_2 ws n' cap w xs r so i co es q (Rg.k0 q n' + i)) hr2 (Looks.nil w0) (fun _ h => by cases h) no_ros rfl ?_ (fun _ _ => rfl) (fun _ _ => rfl) hfr2 fun ν j a3 w3 hfr3 hr3 => ?_
          · simp only [feR2_o, hm, isK_u64, valI_u64, set_u64, map_valU, all_u64, isK_i64, valI_i64, set_i64, isK_bool, valB_bool, set_bool, sadd_eq, smul_eq, Nat.mul_one, Nat.zero_add, Nat.add_zero, List.length_map, hxd, Rg.tick_def, Rg.cnt_def]
            simp [hk, hle, hx, hnz, ha0, ha1, addV_eq, u64sV, maxLen]
            try omega
          · obtain ⟨o, ho⟩ : ∃ o, o = feR2_o ws n' cap w xs r so i co es q (Rg.k0 q n' + i) ν j := ⟨_, rfl⟩
            rw [← ho] at hfr3 hr3
            obtain ⟨g, cap', p1, p2, p3, p4⟩ : ∃ g cap', o.2.2.vecs = [u64S ws n' cap xs, u64sV (some ⟨g, 0, none⟩) (i + 1) cap' (es.map u64V ++ [u64V (Rg.held (Rg.k0 q n' + i) x)])] ∧ o.2.1 = feK r (some ⟨g, 0, none⟩) (i + 1) cap' q (Rg.k0 q n' + ((i + 1 : Nat) : Int)) ∧ o.2.2.news = [] ∧ o.2.2.blocks = feB ws n' cap w r := by
              rw [ho, hh]
              simp only [feR2_o, hm, isK_u64, valI_u64, set_u64, map_valU, all_u64, isK_i64, valI_i64, set_i64, isK_bool, valB_bool, set_bool, sadd_eq, smul_eq, Nat.mul_one, Nat.zero_add, Nat.add_zero, List.length_map, hxd, Rg.cnt_def, hw1, addV_eq]
              exact ⟨_, _, rfl, rfl, trivial, rfl⟩
            rw [p2] at hfr3
            rw [p1, p3, p4] at hr3
            refine hY _ a3 w3 (by omega) ⟨i + 1, some ⟨g, 0, none⟩, cap', rfl, hlt, hfr3, ?_⟩
            rw [hsn, List.map_append]
            exact hr3
      · obtain rfl : i = Rg.many q n' := by omega
        have hso : ∃ g, so = some ⟨g, 0, none⟩ := (res_len hr2 (e := 34) (s := 1) (n := Rg.many q n') (c := co) (so := so) (xs := (Rg.slots xs n' (Rg.k0 q n') (Rg.many q n')).map u64V) (List.mem_cons_of_mem _ (List.mem_cons_self ..))).2.2 (by omega)
        obtain ⟨g, rfl⟩ := hso
        have hgt : ¬ Rg.k0 q n' + (Rg.many q n' : Int) ≤ q := by omega
        obtain ⟨es, hes⟩ : ∃ es, es = Rg.slots xs n' (Rg.k0 q n') (Rg.many q n') := ⟨_, rfl⟩
        rw [← hes] at hr2
        refine Res.segV (GF := []) (V := [u64S ws n' cap xs, u64sV (some ⟨g, 0, none⟩) (Rg.many q n') co (es.map u64V)]) (GV := []) host _ (feR ws n' cap w xs r (some ⟨g, 0, none⟩) (Rg.many q n') co es q (Rg.k0 q n' + Rg.many q n')) feR3_n (feR3_1 ws n' cap w xs r (some ⟨g, 0, none⟩) (Rg.many q n') co es q (Rg.k0 q n' + Rg.many q n')) (feR3_2 ws n' cap w xs r (some ⟨g, 0, none⟩) (Rg.many q n') co es q (Rg.k0 q n' + Rg.many q n')) hr2 (Looks.nil w0) (fun _ h => by cases h) no_ros rfl (by simp only [feR3_o]; simp [hgt]) (fun _ _ => rfl) (fun _ _ => rfl) hfr2 fun ν j a3 w3 hfr3 hr3 => ?_
        refine ⟨[g, co], rfl, by simp only [reachZ, ← hqe]; rfl, ?_⟩
        refine Res.metR (z := reachZ n' w t xs g co) (ls := [g, co]) (GV := []) (GF := feB ws n' cap w r) (L := []) ?_ rfl (by simp [reachZ])
        simp only [reachZ, Rg.sumR, ← hqe, ← hes]
        exact hr3.perm (F' := [] ++ feB ws n' cap w r) (by simp [feR3_o, feB]) (.refl _)
  · exact good_fail
end Go.Proofs.YthmhdiipejgkiaaDoor
