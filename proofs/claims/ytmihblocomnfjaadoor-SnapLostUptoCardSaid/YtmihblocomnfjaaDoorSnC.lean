/- Registers: lists of words and of registers as contracts. -/
import Derived.Test.YtmihblocomnfjaaDoorSnA
set_option linter.unusedSimpArgs false
set_option linter.unusedVariables false
namespace Go.Proofs.YtmihblocomnfjaaDoor
open Go Sy Close
set_option maxRecDepth 100000
namespace Sn
def num (x : Int) : Int := IntKind.u32.wrap (Int.fdiv x (2 ^ min (Int.toNat 32) (IntKind.bits .u64)))
def vl (x : Int) : Int := IntKind.u32.wrap x
def regR (x : Int) : List Value := [.int .u32 (num x), .int .u32 (vl x)]
theorem regR_len (x : Int) : (regR x).length = 2 := rfl
theorem num_def (x : Int) : IntKind.u32.wrap (Int.fdiv x (2 ^ min (Int.toNat 32) (IntKind.bits .u64))) = num x := rfl
theorem vl_def (x : Int) : IntKind.u32.wrap x = vl x := rfl
end Sn
open Sn (regR)
/-- A list of words, its own. -/
def outZ (n : Nat) (xs : List Int) (g cap : Nat) : Sy.Ends := { res := .slice (some ⟨g, 0, none⟩) n cap, vecs := [u64sV (some ⟨g, 0, none⟩) n cap (xs.map u64V)] }
def regZ (n : Nat) (ys : List Value) (g cap : Nat) : Sy.Ends := { res := .slice (some ⟨g, 0, none⟩) n cap, vecs := [regsV (some ⟨g, 0, none⟩) n cap ys] }
def callP (args : Array Value) : CP := match args.toList with
  | [.pointer (some ⟨cb, 0, none⟩)] => loadSl ⟨cb, 0, none⟩ fun ws n cap => loadRow (.slice (some ⟨ws, 0, none⟩) n cap) fun _ xs => needs (Nat.blt 0 n && Nat.ble n 65536 && Nat.beq cap n) <| .done 2 fun l => match l with
    | [g, c] => outZ n xs g c
    | _ => { res := nilP }
  | _ => .fail
theorem call_ok : (⟨40, callP⟩ : Contract).Ok Tryd.prog := con_start fun args w0 => by
  unfold callP
  split
  · rename_i cb hargs
    obtain rfl := args_of hargs
    refine good_sl fun ws n cap => good_words fun n' xs => good_needs fun hn => good_doneR fun hl hr => ?_
    simp only [Bool.and_eq_true, Nat.blt_eq, Nat.ble_eq, Nat.beq_eq] at hn
    obtain ⟨⟨hn0, hn1⟩, e0⟩ := hn
    subst cap
    have hrow : w0.ownsRow 0 109 1 (.slice (some ⟨ws, 0, none⟩) n n) n' (xs.map u64V) := hr.row _ (List.mem_singleton.2 rfl)
    obtain ⟨e1, e2, _⟩ := owns_at hrow
    subst e1
    rw [List.length_map] at e2
    have hro : ∀ x ∈ [(cb, 0, Value.slice (some ⟨ws, 0, none⟩) n' n')], ¬ ∃ y ∈ [(⟨109, 1, .slice (some ⟨ws, 0, none⟩) n' n', n', xs.map u64V⟩ : Vec)], y.v.ownBlock = some x.1 := fun x hx ⟨y, hy, e⟩ => hr.off y hy _ e x hx rfl
    refine calls_after (X := fun _ _ _ => False) (fn := Tryd.f40) Tryd.func40 rfl (show 1 ≤ Tryd.f40.ntmps by decide) fun a hfr => ?_
    refine Res.segV (F := []) (GF := []) (V := []) host _ (calA cb ws n') calA1_n (calA1_1 cb ws n') (calA1_2 cb ws n') (Res.rows hr) hl hro no_ros rfl (by simp [calA1_o]) (fun _ _ => rfl) (fun _ _ => rfl) hfr fun ν j a1 w1 hfr1 hr1 => ?_
    have hr1' := res_nil hr1 39 1
    refine loop_after (i := 3) (by kernel_rfl) (fun d a w2 => ∃ (i : Nat) (so : Option Addr) (co : Nat), d = n' - i ∧ i ≤ n' ∧ Fr Tryd.f40.ntmps (calK cb n' so i co i) a ∧
      Res w0 (fun k => ∃ x ∈ [(⟨109, 1, .slice (some ⟨ws, 0, none⟩) n' n', n', xs.map u64V⟩ : Vec)], x.v.ownBlock = some k) ([] ++ []) [] ([wordsV ws n' n' n' (xs.map u64V), u64sV so i co ((xs.take i).map u64V)] ++ []) w2) n' ⟨0, none, 0, rfl, Nat.zero_le _, hfr1, hr1'.perm (.refl _) (.swap ..)⟩ ?_
    rintro d a2 w2 ⟨i, so, co, rfl, hi, hfr2, hr2⟩ Y hY _
    by_cases hlt : i < n'
    · have hix : i < xs.length := by omega
      have hwi : IntKind.i64.wrap ((i : Int) + 1) = ((i + 1 : Nat) : Int) := by rw [wrap_i64 (by omega) (by omega)]; simp
      have htk : xs.take (i + 1) = xs.take i ++ [xs.getD i 0] := by rw [List.take_add_one, List.getD_eq_getElem?_getD, List.getElem?_eq_getElem hix]; rfl
      refine Res.segV (GF := []) (V := [wordsV ws n' n' n' (xs.map u64V), u64sV so i co ((xs.take i).map u64V)]) (GV := []) host _ (calR cb ws n' xs so i co (xs.take i) i) calR1_n (calR1_1 cb ws n' xs so i co (xs.take i) i) (calR1_2 cb ws n' xs so i co (xs.take i) i) hr2 hl hro no_ros rfl ?_ (fun _ _ => rfl) (fun _ _ => rfl) hfr2 fun ν j a3 w3 hfr3 hr3 => ?_
      · simp only [calR1_o, isK_u64, valI_u64, set_u64, map_valU, all_u64, isK_i64, valI_i64, set_i64, isK_bool, valB_bool, set_bool, sadd_eq, smul_eq, Nat.mul_one, Nat.zero_add, Nat.add_zero, List.length_map, Int.toNat_natCast]
        simp [hlt, hix, u64sV, addV_eq, maxLen]
        omega
      · obtain ⟨o, ho⟩ : ∃ o, o = calR1_o cb ws n' xs so i co (xs.take i) i ν j := ⟨_, rfl⟩
        rw [← ho] at hfr3 hr3
        obtain ⟨g, c, p1, p2, p3, p4⟩ : ∃ g c, o.2.1 = calK cb n' (some ⟨g, 0, none⟩) (i + 1) c (i + 1) ∧ o.2.2.vecs = [wordsV ws n' n' n' (xs.map u64V), u64sV (some ⟨g, 0, none⟩) (i + 1) c ((xs.take (i + 1)).map u64V)] ∧ o.2.2.news = [] ∧ o.2.2.blocks = [] := by
          rw [ho, htk, List.map_append]
          simp only [calR1_o, hwi, addV_eq, isK_u64, valI_u64, set_u64, map_valU, all_u64, isK_i64, valI_i64, set_i64, isK_bool, valB_bool, set_bool, sadd_eq, smul_eq, Nat.mul_one, Nat.zero_add, Nat.add_zero, List.length_map, Int.toNat_natCast]
          exact ⟨_, _, rfl, rfl, trivial, trivial⟩
        rw [p1] at hfr3
        rw [p2, p3, p4] at hr3
        exact hY _ a3 w3 (by omega) ⟨i + 1, _, c, rfl, hlt, hfr3, hr3⟩
    · obtain rfl : i = n' := by omega
      have htk : xs.take i = xs := List.take_of_length_le (by omega)
      rw [htk] at hr2
      obtain ⟨g, rfl⟩ := (res_len hr2 (List.mem_cons_of_mem _ (List.mem_cons_self ..))).2.2 hn0
      refine Res.segV (GF := []) (F := []) (V := []) (GV := [wordsV ws i i i (xs.map u64V), u64sV (some ⟨g, 0, none⟩) i co (xs.map u64V)]) host _ (calX cb i (some ⟨g, 0, none⟩) i co i) calX1_n (calX1_1 cb i (some ⟨g, 0, none⟩) i co i) (calX1_2 cb i (some ⟨g, 0, none⟩) i co i) hr2 (Looks.nil w0) (fun _ h => by cases h) no_ros rfl (by simp [calX1_o]) (fun _ _ => rfl) (fun _ _ => rfl) hfr2 fun ν j a3 w3 hfr3 hr3 => ?_
      exact ⟨[g, co], rfl, rfl, Res.metR (z := outZ i xs g co) (ls := [g, co]) (GV := []) (GF := []) (L := []) hr3 rfl (by simp [outZ])⟩
  · exact good_fail
def rgsP (args : Array Value) : CP := match args.toList with
  | [.slice (some ⟨ab, 0, none⟩) n c] => loadNums (.slice (some ⟨ab, 0, none⟩) n c) fun _ xs => needs (Nat.blt 0 n && Nat.ble n 65536) <| .done 2 fun l => match l with
    | [g, cap] => regZ n (xs.flatMap regR) g cap
    | _ => { res := nilP }
  | _ => .fail
theorem rgs_ok : (⟨39, rgsP⟩ : Contract).Ok Tryd.prog := con_start fun args w0 => by
  unfold rgsP
  split
  · rename_i ab n c hargs
    obtain rfl := args_of hargs
    refine good_u64s fun n' xs => good_needs fun hn => good_doneR fun hl hr => ?_
    simp only [Bool.and_eq_true, Nat.blt_eq, Nat.ble_eq] at hn
    obtain ⟨hn0, hn1⟩ := hn
    have hrow : w0.ownsRow 0 39 1 (.slice (some ⟨ab, 0, none⟩) n c) n' (xs.map u64V) := hr.row _ (List.mem_singleton.2 rfl)
    obtain ⟨e1, e2, _⟩ := owns_at hrow
    subst e1
    rw [List.length_map] at e2
    refine calls_after (X := fun _ _ _ => False) (fn := Tryd.f39) Tryd.func39 rfl (show 1 ≤ Tryd.f39.ntmps by decide) fun a hfr => ?_
    refine Res.segV (F := []) (GF := []) (V := []) host _ (rgsA ab n' c) rgsA1_n (rgsA1_1 ab n' c) (rgsA1_2 ab n' c) (Res.rows hr) (Looks.nil w0) (fun _ h => by cases h) no_ros rfl (by simp [rgsA1_o]) (fun _ _ => rfl) (fun _ _ => rfl) hfr fun ν j a1 w1 hfr1 hr1 => ?_
    have hr1' := res_nil hr1 63 2
    refine loop_after (i := 3) (by kernel_rfl) (fun d a w2 => ∃ (i : Nat) (so : Option Addr) (co : Nat), d = n' - i ∧ i ≤ n' ∧ Fr Tryd.f39.ntmps (rgsK ab n' c so i co i) a ∧
      Res w0 (fun k => ∃ x ∈ [u64S ab n' c xs], x.v.ownBlock = some k) ([] ++ []) [] ([u64S ab n' c xs, regsV so i co ((xs.take i).flatMap regR)] ++ []) w2) n' ⟨0, none, 0, rfl, Nat.zero_le _, hfr1, hr1'.perm (.refl _) (.swap ..)⟩ ?_
    rintro d a2 w2 ⟨i, so, co, rfl, hi, hfr2, hr2⟩ Y hY _
    by_cases hlt : i < n'
    · have hix : i < xs.length := by omega
      have hwi : IntKind.i64.wrap ((i : Int) + 1) = ((i + 1 : Nat) : Int) := by rw [wrap_i64 (by omega) (by omega)]; simp
      have htk : xs.take (i + 1) = xs.take i ++ [xs.getD i 0] := by rw [List.take_add_one, List.getD_eq_getElem?_getD, List.getElem?_eq_getElem hix]; rfl
      refine Res.segV (GF := []) (V := [u64S ab n' c xs, regsV so i co ((xs.take i).flatMap regR)]) (GV := []) host _ (rgsR ab n' c xs so i co ((xs.take i).flatMap regR) i) rgsR1_n (rgsR1_1 ab n' c xs so i co ((xs.take i).flatMap regR) i) (rgsR1_2 ab n' c xs so i co ((xs.take i).flatMap regR) i) hr2 (Looks.nil w0) (fun _ h => by cases h) no_ros rfl ?_ (fun _ _ => rfl) (fun _ _ => rfl) hfr2 fun ν j a3 w3 hfr3 hr3 => ?_
      · simp only [rgsR1_o, isK_u64, valI_u64, set_u64, map_valU, all_u64, isK_i64, valI_i64, set_i64, isK_bool, valB_bool, set_bool, sadd_eq, smul_eq, Nat.mul_one, Nat.zero_add, Nat.add_zero, List.length_map, Int.toNat_natCast]
        simp [hlt, hix, regsV, addV_eq, maxLen]
        omega
      · obtain ⟨o, ho⟩ : ∃ o, o = rgsR1_o ab n' c xs so i co ((xs.take i).flatMap regR) i ν j := ⟨_, rfl⟩
        rw [← ho] at hfr3 hr3
        obtain ⟨g, cp, p1, p2, p3, p4⟩ : ∃ g cp, o.2.1 = rgsK ab n' c (some ⟨g, 0, none⟩) (i + 1) cp (i + 1) ∧ o.2.2.vecs = [u64S ab n' c xs, regsV (some ⟨g, 0, none⟩) (i + 1) cp ((xs.take (i + 1)).flatMap regR)] ∧ o.2.2.news = [] ∧ o.2.2.blocks = [] := by
          rw [ho, htk, List.flatMap_append]
          simp only [rgsR1_o, hwi, addV_eq, isK_u64, valI_u64, set_u64, map_valU, all_u64, isK_i64, valI_i64, set_i64, isK_bool, valB_bool, set_bool, sadd_eq, smul_eq, Nat.mul_one, Nat.zero_add, Nat.add_zero, List.length_map, Int.toNat_natCast]
          exact ⟨_, _, rfl, rfl, trivial, trivial⟩
        rw [p1] at hfr3
        rw [p2, p3, p4] at hr3
        exact hY _ a3 w3 (by omega) ⟨i + 1, _, cp, rfl, hlt, hfr3, hr3⟩
    · obtain rfl : i = n' := by omega
      have htk : xs.take i = xs := List.take_of_length_le (by omega)
      rw [htk] at hr2
      obtain ⟨g, rfl⟩ := (res_len hr2 (List.mem_cons_of_mem _ (List.mem_cons_self ..))).2.2 hn0
      refine Res.segV (GF := []) (F := []) (V := []) (GV := [u64S ab i c xs, regsV (some ⟨g, 0, none⟩) i co (xs.flatMap regR)]) host _ (rgsX ab i c (some ⟨g, 0, none⟩) i co i) rgsX1_n (rgsX1_1 ab i c (some ⟨g, 0, none⟩) i co i) (rgsX1_2 ab i c (some ⟨g, 0, none⟩) i co i) hr2 (Looks.nil w0) (fun _ h => by cases h) no_ros rfl (by simp [rgsX1_o]) (fun _ _ => rfl) (fun _ _ => rfl) hfr2 fun ν j a3 w3 hfr3 hr3 => ?_
      exact ⟨[g, co], rfl, rfl, Res.metR (z := regZ i (xs.flatMap regR) g co) (ls := [g, co]) (GV := []) (GF := []) (L := []) hr3 rfl (by simp [regZ])⟩
  · exact good_fail
def cloP (args : Array Value) : CP := match args.toList with
  | [.slice (some ⟨ab, 0, none⟩) n c] => .row (.slice (some ⟨ab, 0, none⟩) n c) 63 2 fun _ ys => needs (ys.all oneC && Nat.blt 0 n && Nat.ble n 65536) <| .done 2 fun l => match l with
    | [g, cap] => regZ n ys g cap
    | _ => { res := nilP }
  | _ => .fail
theorem clo_ok : (⟨38, cloP⟩ : Contract).Ok Tryd.prog := con_start fun args w0 => by
  unfold cloP
  split
  · rename_i ab n c hargs
    obtain rfl := args_of hargs
    refine Sy.good_row fun n' ys => good_needs fun hn => good_doneR fun hl hr => ?_
    simp only [Bool.and_eq_true, Nat.blt_eq, Nat.ble_eq] at hn
    obtain ⟨⟨h1, hn0⟩, hn1⟩ := hn
    have hrow : w0.ownsRow 0 63 2 (.slice (some ⟨ab, 0, none⟩) n c) n' ys := hr.row _ (List.mem_singleton.2 rfl)
    have e1 : n' = n := by
      rcases hrow.2 with ⟨h, _⟩ | ⟨g, cap, cur, h, _⟩
      · cases h
      · simp only [Value.slice.injEq] at h
        exact h.2.1.symm
    subst e1
    have e2 : ys.length = n' * 2 := hrow.1
    refine calls_after (X := fun _ _ _ => False) (fn := Tryd.f38) Tryd.func38 rfl (show 1 ≤ Tryd.f38.ntmps by decide) fun a hfr => ?_
    refine Res.segV (F := []) (GF := []) (V := [regsV (some ⟨ab, 0, none⟩) n' c ys]) (GV := []) host _ (cloA ab n' c ys) cloA1_n (cloA1_1 ab n' c ys) (cloA1_2 ab n' c ys) (Res.rows hr) (Looks.nil w0) (fun _ h => by cases h) no_ros rfl ?_ (fun _ _ => rfl) (fun _ _ => rfl) hfr fun ν j a1 w1 hfr1 hr1 => ?_
    · simp only [cloA1_o, h1]
      simp [hn0, e2, maxLen]
      exact ⟨by omega, decide_eq_true (by omega)⟩
    · obtain ⟨g, cap, p1, p2, p3, p4⟩ : ∃ g cap, (cloA1_o ab n' c ys ν j).1 = .ret (.slice (some ⟨g, 0, none⟩) n' cap) ∧ (cloA1_o ab n' c ys ν j).2.2.vecs = [regsV (some ⟨ab, 0, none⟩) n' c ys, regsV (some ⟨g, 0, none⟩) n' cap ys] ∧ (cloA1_o ab n' c ys ν j).2.2.news = [] ∧ (cloA1_o ab n' c ys ν j).2.2.blocks = [] := ⟨_, _, rfl, rfl, rfl, rfl⟩
      rw [p2, p3, p4] at hr1
      rw [p1]
      exact ⟨[g, cap], rfl, rfl, Res.metR (z := regZ n' ys g cap) (ls := [g, cap]) (GV := []) (GF := []) (L := []) hr1 rfl (by simp [regZ])⟩
  · exact good_fail
def eqP (args : Array Value) : CP := match args.toList with
  | [.slice (some ⟨ab, 0, none⟩) an ac, .slice (some ⟨bb, 0, none⟩) bn bc] => needs (Nat.ble an 65536 && Nat.ble bn 65536) <| loadNums (.slice (some ⟨ab, 0, none⟩) an ac) fun _ xs => loadNums (.slice (some ⟨bb, 0, none⟩) bn bc) fun _ ys => .done 0 fun _ => { res := .bool (decide (xs = ys)) }
  | [.slice none 0 0, .slice (some ⟨bb, 0, none⟩) bn bc] => needs (Nat.blt 0 bn) <| .done 0 fun _ => { res := .bool false }
  | _ => .fail
theorem eq_ok : (⟨45, eqP⟩ : Contract).Ok Tryd.prog := con_start fun args w0 => by
  unfold eqP
  split
  · rename_i ab an ac bb bn bc hargs
    obtain rfl := args_of hargs
    refine good_needs fun hn => good_u64s fun n' xs => good_u64s fun m' ys => good_doneR fun hl hr => ?_
    simp only [Bool.and_eq_true, Nat.ble_eq] at hn
    obtain ⟨hn0, hn1⟩ := hn
    have hra : w0.ownsRow 0 39 1 (.slice (some ⟨ab, 0, none⟩) an ac) n' (xs.map u64V) := hr.row _ (List.mem_cons_of_mem _ (List.mem_singleton.2 rfl))
    have hrb : w0.ownsRow 0 39 1 (.slice (some ⟨bb, 0, none⟩) bn bc) m' (ys.map u64V) := hr.row _ (List.mem_cons_self ..)
    obtain ⟨e1, e2, _⟩ := owns_at hra
    obtain ⟨e3, e4, _⟩ := owns_at hrb
    subst e1 e3
    rw [List.length_map] at e2 e4
    refine calls_after (X := fun _ _ _ => False) (fn := Tryd.f45) Tryd.func45 rfl (show 2 ≤ Tryd.f45.ntmps by decide) fun a hfr => ?_
    have fin : ∀ {w1 : World} (g : Bool), Res w0 (fun k => ∃ x ∈ [u64S bb m' bc ys, u64S ab n' ac xs], x.v.ownBlock = some k) ([] ++ ([] ++ [])) [] ([] ++ [u64S bb m' bc ys, u64S ab n' ac xs]) w1 → g = decide (xs = ys) → ∃ ls : List Nat, ls.length = 0 ∧ Ending.returned (.bool g) = .returned (({ res := .bool (decide (xs = ys)) } : Sy.Ends)).res ∧ (({ res := .bool (decide (xs = ys)) } : Sy.Ends)).Met ls [u64S bb m' bc ys, u64S ab n' ac xs] w0 w1 := fun {w1} g hs e =>
      ⟨[], rfl, by rw [e], Res.metR (z := ({ res := .bool (decide (xs = ys)) } : Sy.Ends)) (ls := []) (GV := []) (GF := []) (L := []) hs rfl (by simp)⟩
    by_cases hlen : n' = m'
    · subst hlen
      refine Res.segV (F := []) (GF := []) (V := []) host _ (eqA ab n' ac bb n' bc) eqA1_n (eqA1_1 ab n' ac bb n' bc) (eqA1_2 ab n' ac bb n' bc) (Res.rows hr) (Looks.nil w0) (fun _ h => by cases h) no_ros rfl (by simp [eqA1_o]) (fun _ _ => rfl) (fun _ _ => rfl) hfr fun ν j a1 w1 hfr1 hr1 => ?_
      refine loop_after (i := 4) (by kernel_rfl) (fun m a w => ∃ i, m = n' - i ∧ i ≤ n' ∧ xs.take i = ys.take i ∧ Fr Tryd.f45.ntmps (eqK ab n' ac bb n' bc i) a ∧ Res w0 (fun k => ∃ x ∈ [u64S bb n' bc ys, u64S ab n' ac xs], x.v.ownBlock = some k) ([] ++ []) [] ([u64S ab n' ac xs, u64S bb n' bc ys] ++ []) w) n' ⟨0, rfl, Nat.zero_le _, rfl, hfr1, (show Res w0 _ ([] ++ []) [] [u64S bb n' bc ys, u64S ab n' ac xs] w1 from hr1).perm (.refl _) (.swap ..)⟩ ?_
      rintro m a2 w2 ⟨i, rfl, hi, htk, hfr2, hr2⟩ Y hY _
      by_cases hlt : i < n'
      · have ex : xs[i]? = some (xs.getD i 0) := by rw [List.getD_eq_getElem?_getD, List.getElem?_eq_getElem (by omega)]; rfl
        have ey : ys[i]? = some (ys.getD i 0) := by rw [List.getD_eq_getElem?_getD, List.getElem?_eq_getElem (by omega)]; rfl
        have hix : i < xs.length := by omega
        have hiy : i < ys.length := by omega
        by_cases hxy : xs.getD i 0 = ys.getD i 0
        · refine Res.segV (V := [u64S ab n' ac xs, u64S bb n' bc ys]) (GV := []) (GF := []) host _ (eqR ab n' ac bb n' bc xs ys i) eqR1_n (eqR1_1 ab n' ac bb n' bc xs ys i) (eqR1_2 ab n' ac bb n' bc xs ys i) hr2 (Looks.nil w0) (fun _ h => by cases h) no_ros rfl (by
            intro ν j
            simp only [eqR1_o, isK_u64, valI_u64, set_u64, map_valU, all_u64, isK_i64, valI_i64, set_i64, isK_bool, valB_bool, set_bool, sadd_eq, smul_eq, Nat.mul_one, Nat.zero_add, Nat.add_zero, List.length_map, Int.toNat_natCast]
            rw [hxy]
            simp [hlt, hix, hiy]) (fun _ _ => rfl) (fun _ _ => rfl) hfr2 fun ν j a3 w3 hfr3 hr3 => ?_
          have ew : IntKind.i64.wrap ((i : Int) + 1) = ((i + 1 : Nat) : Int) := by rw [wrap_i64 (by omega) (by omega)]; simp
          simp only [eqR1_o, ew] at hfr3
          refine hY _ a3 w3 (show n' - (i + 1) < n' - i by omega) ⟨i + 1, rfl, hlt, ?_, hfr3, hr3⟩
          rw [List.take_add_one, List.take_add_one, htk, ex, ey, hxy]
        · refine Res.segV (V := [u64S ab n' ac xs, u64S bb n' bc ys]) (GV := []) (GF := []) host _ (eqR ab n' ac bb n' bc xs ys i) eqR2_n (eqR2_1 ab n' ac bb n' bc xs ys i) (eqR2_2 ab n' ac bb n' bc xs ys i) hr2 (Looks.nil w0) (fun _ h => by cases h) no_ros rfl (by
            intro ν j
            simp only [eqR2_o, isK_u64, valI_u64, set_u64, map_valU, all_u64, isK_i64, valI_i64, set_i64, isK_bool, valB_bool, set_bool, sadd_eq, smul_eq, Nat.mul_one, Nat.zero_add, Nat.add_zero, List.length_map, Int.toNat_natCast]
            have hb : (xs.getD i 0 != ys.getD i 0) = true := bne_iff_ne.2 hxy
            simp only [hb]
            simp [hlt, hix, hiy]) (fun _ _ => rfl) (fun _ _ => rfl) hfr2 fun ν j a3 w3 hfr3 hr3 => ?_
          refine fin false (hr3.perm (.refl _) (.swap ..)) (decide_eq_false fun e => hxy ?_).symm
          rw [e]
      · have e : i = n' := by omega
        subst e
        refine Res.segV (V := [u64S ab i ac xs, u64S bb i bc ys]) (GV := []) (GF := []) host _ (eqR ab i ac bb i bc xs ys i) eqR3_n (eqR3_1 ab i ac bb i bc xs ys i) (eqR3_2 ab i ac bb i bc xs ys i) hr2 (Looks.nil w0) (fun _ h => by cases h) no_ros rfl (by simp [eqR3_o]) (fun _ _ => rfl) (fun _ _ => rfl) hfr2 fun ν j a3 w3 hfr3 hr3 => ?_
        refine fin true (hr3.perm (.refl _) (.swap ..)) (decide_eq_true ?_).symm
        rw [List.take_of_length_le (by omega), List.take_of_length_le (by omega)] at htk
        exact htk
    · refine Res.segV (F := []) (GF := []) (V := []) host _ (eqA ab n' ac bb m' bc) eqA2_n (eqA2_1 ab n' ac bb m' bc) (eqA2_2 ab n' ac bb m' bc) (Res.rows hr) (Looks.nil w0) (fun _ h => by cases h) no_ros rfl (by simp [eqA2_o]; omega) (fun _ _ => rfl) (fun _ _ => rfl) hfr fun ν j a1 w1 hfr1 hr1 => ?_
      refine fin false hr1 (decide_eq_false fun e => hlen ?_).symm
      rw [← e2, ← e4, e]
  · rename_i bb bn bc hargs
    obtain rfl := args_of hargs
    refine good_needs fun hn => good_doneR fun hl hr => ?_
    rw [Nat.blt_eq] at hn
    refine calls_after (X := fun _ _ _ => False) (fn := Tryd.f45) Tryd.func45 rfl (show 2 ≤ Tryd.f45.ntmps by decide) fun a hfr => ?_
    refine Res.segV (F := []) (GF := []) (V := []) host _ (eqN bb bn bc) eqN1_n (eqN1_1 bb bn bc) (eqN1_2 bb bn bc) (Res.rows hr) (Looks.nil w0) (fun _ h => by cases h) no_ros rfl (by simp [eqN1_o]; omega) (fun _ _ => rfl) (fun _ _ => rfl) hfr fun ν j a1 w1 hfr1 hr1 => ?_
    exact ⟨[], rfl, rfl, Res.metR (z := ({ res := .bool false } : Sy.Ends)) (ls := []) (GV := []) (GF := []) (L := []) hr1 rfl (by simp)⟩
  · exact good_fail
def consA : List Contract := [⟨32, doqP⟩, ⟨40, callP⟩, ⟨39, rgsP⟩, ⟨38, cloP⟩, ⟨45, eqP⟩]
theorem consA_ok : ∀ c ∈ consA, c.Ok Tryd.prog := con_ok doq_ok (con_ok call_ok (con_ok rgs_ok (con_ok clo_ok (con_ok eq_ok con_nil))))
noncomputable def hostA : Host Tryd.prog := hostOf _ consA_ok
end Go.Proofs.YtmihblocomnfjaaDoor
