/- The document's Step for sharded counters as a contract. -/
import Derived.Test.YtfdgggikjnoghaaDoorShV
import Derived.Test.YtfdgggikjnoghaaDoorElem
namespace Go.Proofs.YtfdgggikjnoghaaDoor
open Go Sy Close
set_option maxRecDepth 100000
namespace Sk
def rcell (n : Nat) (k w at_ : Int) : Int := if isOne k = true then Int.tmod w n else at_
def rput (k b x : Int) : Int := if k = 1 then w64 (x + b) else if k = 4 then 0 else x
def rsum (k b sum x : Int) : Int := if k = 1 then w64 (x + b) else w64 (sum + x)
def kinds (k : Int) : Bool := isOne k || isAll k
end Sk
def rstepZ (g cap n : Nat) (xs : List Int) (k w b at_ sum : Int) : Sy.Ends :=
  { res := .tuple #[.slice (some ⟨g, 0, none⟩) n cap, underV k w b (IntKind.i64.wrap (at_ + 1)) (Sk.rsum k b sum (seeAt xs (Sk.rcell n k w at_))), didV (Sk.akOf k) (Sk.rcell n k w at_) (seeAt xs (Sk.rcell n k w at_)) (Sk.rput k b (seeAt xs (Sk.rcell n k w at_))) true]
    vecs := [u64sV (some ⟨g, 0, none⟩) n cap ((putAt xs (Sk.rcell n k w at_) (Sk.rput k b (seeAt xs (Sk.rcell n k w at_)))).map u64V)] }
def rstepP (args : Array Value) : CP := match args.toList with
  | [.slice (some ⟨lb, 0, none⟩) n c, .agg ⟨[.int .u8 k, .int .i64 w, .int .u64 b, .int .i64 at_, .int .u64 sum]⟩] => needs (Nat.blt 0 n && Nat.ble n 65536 && Sk.kinds k && decide (0 ≤ Sk.rcell n k w at_) && decide (Sk.rcell n k w at_ < n)) <| loadNums (.slice (some ⟨lb, 0, none⟩) n c) fun _ xs => .done 2 fun l => match l with
    | [g, cap] => rstepZ g cap n xs k w b at_ sum
    | _ => { res := nilP }
  | _ => .fail
theorem rstep_ok : (⟨22, rstepP⟩ : Contract).Ok Tryd.prog := con_start fun args w0 => by
  unfold rstepP
  split
  · rename_i lb n c k w b at_ sum hargs
    obtain rfl := args_of hargs
    refine good_needs fun hn => good_u64s fun n' xs => good_doneR fun hl hrw => ?_
    simp only [Bool.and_eq_true, decide_eq_true_eq] at hn
    obtain ⟨⟨⟨⟨hn0, hn1⟩, hkd⟩, hc0⟩, hc1⟩ := hn
    have hrow : w0.ownsRow 0 32 1 (.slice (some ⟨lb, 0, none⟩) n c) n' (xs.map u64V) := hrw.row _ (List.mem_singleton.2 rfl)
    obtain ⟨e1, e2, _⟩ := owns_at hrow
    subst e1
    rw [List.length_map] at e2
    have hx : (Sk.rcell n' k w at_).toNat < xs.length := by omega
    have hkc : k = 1 ∨ k = 2 ∨ k = 3 ∨ k = 4 := by
      simp only [Sk.kinds, Sk.isOne, Sk.isAll, Bool.or_eq_true, decide_eq_true_eq] at hkd
      omega
    have hn2 : ¬ n' = 0 := by simp at hn0; omega
    have p1 : k = 1 → Calls Tryd.prog (rstepC lb n' c n' xs 1 w b at_ sum).f (rstepC lb n' c n' xs 1 w b at_ sum).args w0 fun e w' => ∃ ls : List Nat, ls.length = 2 ∧ e = .returned ((match ls with | [g, cap] => rstepZ g cap n' xs 1 w b at_ sum | _ => { res := nilP } : Sy.Ends)).res ∧ ((match ls with | [g, cap] => rstepZ g cap n' xs 1 w b at_ sum | _ => { res := nilP } : Sy.Ends)).Met ls [⟨32, 1, .slice (some ⟨lb, 0, none⟩) n' c, n', xs.map u64V⟩] w0 w' := fun hk => by
      subst hk
      simp [Sk.rcell, Sk.isOne] at hc0 hc1 hx
      refine good_walkR host4 rstep1_n (c := rstepC lb n' c n' xs 1 w b at_ sum) (rstep1_1 lb n' c n' xs 1 w b at_ sum) (rstep1_2 lb n' c n' xs 1 w b at_ sum) ?_ rfl hl hrw fun ν => ⟨((rstep1_o lb n' c n' xs 1 w b at_ sum ν).2.vecs.getLast?.map fun x => slL x.v).getD [], rfl, rfl, ?_, .same _, rfl, ?_⟩
      · simp only [rstep1_o, isK_u64, valI_u64, set_u64, map_valU, all_u64, isK_i64, valI_i64, set_i64, isK_bool, valB_bool, set_bool, sadd_eq, smul_eq, Nat.mul_one, Nat.zero_add, Nat.add_zero, List.length_map]
        simp [hc0, hc1, hx, hn2, hn0, hn1]
      · simp only [rstep1_o, isK_u64, valI_u64, set_u64, map_valU, all_u64, isK_i64, valI_i64, set_i64, isK_bool, valB_bool, set_bool, sadd_eq, smul_eq, Nat.mul_one, Nat.zero_add, Nat.add_zero, List.length_map]
        simp [rstepZ, slL, underV, didV, Sk.rcell, Sk.isOne, Sk.isAll, Sk.rsum, Sk.rput, Sk.akOf, seeAt, Sk.w64]
      · simp only [rstep1_o, isK_u64, valI_u64, set_u64, map_valU, all_u64, isK_i64, valI_i64, set_i64, isK_bool, valB_bool, set_bool, sadd_eq, smul_eq, Nat.mul_one, Nat.zero_add, Nat.add_zero, List.length_map]
        simp [rstepZ, slL, u64sV, rowsNow, rowNow, Sk.rcell, Sk.isOne, Sk.isAll, Sk.rput, seeAt, putAt, Sk.w64]
    have p2 : k = 2 → Calls Tryd.prog (rstepC lb n' c n' xs 2 w b at_ sum).f (rstepC lb n' c n' xs 2 w b at_ sum).args w0 fun e w' => ∃ ls : List Nat, ls.length = 2 ∧ e = .returned ((match ls with | [g, cap] => rstepZ g cap n' xs 2 w b at_ sum | _ => { res := nilP } : Sy.Ends)).res ∧ ((match ls with | [g, cap] => rstepZ g cap n' xs 2 w b at_ sum | _ => { res := nilP } : Sy.Ends)).Met ls [⟨32, 1, .slice (some ⟨lb, 0, none⟩) n' c, n', xs.map u64V⟩] w0 w' := fun hk => by
      subst hk
      simp [Sk.rcell, Sk.isOne] at hc0 hc1 hx
      refine good_walkR host4 rstep2_n (c := rstepC lb n' c n' xs 2 w b at_ sum) (rstep2_1 lb n' c n' xs 2 w b at_ sum) (rstep2_2 lb n' c n' xs 2 w b at_ sum) ?_ rfl hl hrw fun ν => ⟨((rstep2_o lb n' c n' xs 2 w b at_ sum ν).2.vecs.getLast?.map fun x => slL x.v).getD [], rfl, rfl, ?_, .same _, rfl, ?_⟩
      · simp only [rstep2_o, isK_u64, valI_u64, set_u64, map_valU, all_u64, isK_i64, valI_i64, set_i64, isK_bool, valB_bool, set_bool, sadd_eq, smul_eq, Nat.mul_one, Nat.zero_add, Nat.add_zero, List.length_map]
        simp [hc0, hc1, hx, hn2, hn0, hn1]
      · simp only [rstep2_o, isK_u64, valI_u64, set_u64, map_valU, all_u64, isK_i64, valI_i64, set_i64, isK_bool, valB_bool, set_bool, sadd_eq, smul_eq, Nat.mul_one, Nat.zero_add, Nat.add_zero, List.length_map]
        simp [rstepZ, slL, underV, didV, Sk.rcell, Sk.isOne, Sk.isAll, Sk.rsum, Sk.rput, Sk.akOf, seeAt, Sk.w64]
      · simp only [rstep2_o, isK_u64, valI_u64, set_u64, map_valU, all_u64, isK_i64, valI_i64, set_i64, isK_bool, valB_bool, set_bool, sadd_eq, smul_eq, Nat.mul_one, Nat.zero_add, Nat.add_zero, List.length_map]
        simp [rstepZ, slL, u64sV, rowsNow, rowNow, Sk.rcell, Sk.isOne, Sk.isAll, Sk.rput, seeAt, putAt, Sk.w64]
    have p3 : k = 3 → Calls Tryd.prog (rstepC lb n' c n' xs 3 w b at_ sum).f (rstepC lb n' c n' xs 3 w b at_ sum).args w0 fun e w' => ∃ ls : List Nat, ls.length = 2 ∧ e = .returned ((match ls with | [g, cap] => rstepZ g cap n' xs 3 w b at_ sum | _ => { res := nilP } : Sy.Ends)).res ∧ ((match ls with | [g, cap] => rstepZ g cap n' xs 3 w b at_ sum | _ => { res := nilP } : Sy.Ends)).Met ls [⟨32, 1, .slice (some ⟨lb, 0, none⟩) n' c, n', xs.map u64V⟩] w0 w' := fun hk => by
      subst hk
      simp [Sk.rcell, Sk.isOne] at hc0 hc1 hx
      refine good_walkR host4 rstep3_n (c := rstepC lb n' c n' xs 3 w b at_ sum) (rstep3_1 lb n' c n' xs 3 w b at_ sum) (rstep3_2 lb n' c n' xs 3 w b at_ sum) ?_ rfl hl hrw fun ν => ⟨((rstep3_o lb n' c n' xs 3 w b at_ sum ν).2.vecs.getLast?.map fun x => slL x.v).getD [], rfl, rfl, ?_, .same _, rfl, ?_⟩
      · simp only [rstep3_o, isK_u64, valI_u64, set_u64, map_valU, all_u64, isK_i64, valI_i64, set_i64, isK_bool, valB_bool, set_bool, sadd_eq, smul_eq, Nat.mul_one, Nat.zero_add, Nat.add_zero, List.length_map]
        simp [hc0, hc1, hx, hn2, hn0, hn1]
      · simp only [rstep3_o, isK_u64, valI_u64, set_u64, map_valU, all_u64, isK_i64, valI_i64, set_i64, isK_bool, valB_bool, set_bool, sadd_eq, smul_eq, Nat.mul_one, Nat.zero_add, Nat.add_zero, List.length_map]
        simp [rstepZ, slL, underV, didV, Sk.rcell, Sk.isOne, Sk.isAll, Sk.rsum, Sk.rput, Sk.akOf, seeAt, Sk.w64]
      · simp only [rstep3_o, isK_u64, valI_u64, set_u64, map_valU, all_u64, isK_i64, valI_i64, set_i64, isK_bool, valB_bool, set_bool, sadd_eq, smul_eq, Nat.mul_one, Nat.zero_add, Nat.add_zero, List.length_map]
        simp [rstepZ, slL, u64sV, rowsNow, rowNow, Sk.rcell, Sk.isOne, Sk.isAll, Sk.rput, seeAt, putAt, Sk.w64]
    have p4 : k = 4 → Calls Tryd.prog (rstepC lb n' c n' xs 4 w b at_ sum).f (rstepC lb n' c n' xs 4 w b at_ sum).args w0 fun e w' => ∃ ls : List Nat, ls.length = 2 ∧ e = .returned ((match ls with | [g, cap] => rstepZ g cap n' xs 4 w b at_ sum | _ => { res := nilP } : Sy.Ends)).res ∧ ((match ls with | [g, cap] => rstepZ g cap n' xs 4 w b at_ sum | _ => { res := nilP } : Sy.Ends)).Met ls [⟨32, 1, .slice (some ⟨lb, 0, none⟩) n' c, n', xs.map u64V⟩] w0 w' := fun hk => by
      subst hk
      simp [Sk.rcell, Sk.isOne] at hc0 hc1 hx
      refine good_walkR host4 rstep4_n (c := rstepC lb n' c n' xs 4 w b at_ sum) (rstep4_1 lb n' c n' xs 4 w b at_ sum) (rstep4_2 lb n' c n' xs 4 w b at_ sum) ?_ rfl hl hrw fun ν => ⟨((rstep4_o lb n' c n' xs 4 w b at_ sum ν).2.vecs.getLast?.map fun x => slL x.v).getD [], rfl, rfl, ?_, .same _, rfl, ?_⟩
      · simp only [rstep4_o, isK_u64, valI_u64, set_u64, map_valU, all_u64, isK_i64, valI_i64, set_i64, isK_bool, valB_bool, set_bool, sadd_eq, smul_eq, Nat.mul_one, Nat.zero_add, Nat.add_zero, List.length_map]
        simp [hc0, hc1, hx, hn2, hn0, hn1]
      · simp only [rstep4_o, isK_u64, valI_u64, set_u64, map_valU, all_u64, isK_i64, valI_i64, set_i64, isK_bool, valB_bool, set_bool, sadd_eq, smul_eq, Nat.mul_one, Nat.zero_add, Nat.add_zero, List.length_map]
        simp [rstepZ, slL, underV, didV, Sk.rcell, Sk.isOne, Sk.isAll, Sk.rsum, Sk.rput, Sk.akOf, seeAt, Sk.w64]
      · simp only [rstep4_o, isK_u64, valI_u64, set_u64, map_valU, all_u64, isK_i64, valI_i64, set_i64, isK_bool, valB_bool, set_bool, sadd_eq, smul_eq, Nat.mul_one, Nat.zero_add, Nat.add_zero, List.length_map]
        simp [rstepZ, slL, u64sV, rowsNow, rowNow, Sk.rcell, Sk.isOne, Sk.isAll, Sk.rput, seeAt, putAt, Sk.w64]
    rcases hkc with rfl | rfl | rfl | rfl
    · exact p1 rfl
    · exact p2 rfl
    · exact p3 rfl
    · exact p4 rfl
  · exact good_fail
end Go.Proofs.YtfdgggikjnoghaaDoor
