/- The document's lists of numbers: Same as a contract. -/
import Derived.Test.YtfdgggikjnoghaaDoorShT
namespace Go.Proofs.YtfdgggikjnoghaaDoor
open Go Sy Close
set_option maxRecDepth 100000
def sameP (args : Array Value) : CP := match args.toList with
  | [.slice (some ⟨ab, 0, none⟩) an ac, .slice (some ⟨bb, 0, none⟩) bn bc] => needs (Nat.ble an 65536 && Nat.ble bn 65536) <| loadNums (.slice (some ⟨ab, 0, none⟩) an ac) fun _ xs => loadNums (.slice (some ⟨bb, 0, none⟩) bn bc) fun _ ys => .done 0 fun _ => { res := .bool (decide (xs = ys)) }
  | _ => .fail
theorem same_ok : (⟨23, sameP⟩ : Contract).Ok Tryd.prog := con_start fun args w0 => by
  unfold sameP
  split
  · rename_i ab an ac bb bn bc hargs
    obtain rfl := args_of hargs
    refine good_needs fun hn => Sy.good_row fun n' xv => good_needs fun hu => Sy.good_row fun m' yv => good_needs fun hu' => good_doneR fun hl hrw => calls_after (X := fun _ _ _ => False) (fn := Tryd.f23) Tryd.func23 rfl (show 2 ≤ Tryd.f23.ntmps by decide) fun a hfr => ?_
    simp only [Bool.and_eq_true, Nat.ble_eq] at hn
    obtain ⟨hn0, hn1⟩ := hn
    have hra : w0.ownsRow 0 32 1 (.slice (some ⟨ab, 0, none⟩) an ac) n' xv := hrw.row _ (List.mem_cons_of_mem _ (List.mem_singleton.2 rfl))
    have hrb : w0.ownsRow 0 32 1 (.slice (some ⟨bb, 0, none⟩) bn bc) m' yv := hrw.row _ (List.mem_cons_self ..)
    obtain ⟨e1, e2, hata⟩ := owns_at hra
    obtain ⟨e3, e4, hatb⟩ := owns_at hrb
    subst e1 e3
    have hne : ab ≠ bb := fun e => (List.pairwise_cons.1 hrw.dist).1 _ (List.mem_singleton.2 rfl) bb rfl (by rw [← e]; rfl)
    have fin : ∀ {w1 : World} (g : Bool), Sub (fun _ _ => False) w0 w1 → g = decide (xv.map valU = yv.map valU) → ∃ ls : List Nat, ls.length = 0 ∧ Ending.returned (.bool g) = .returned (({ res := .bool (decide (xv.map valU = yv.map valU)) } : Sy.Ends)).res ∧ (({ res := .bool (decide (xv.map valU = yv.map valU)) } : Sy.Ends)).Met ls [⟨32, 1, .slice (some ⟨bb, 0, none⟩) m' bc, m', yv⟩, ⟨32, 1, .slice (some ⟨ab, 0, none⟩) n' ac, n', xv⟩] w0 w1 := fun {w1} g hs e => by
      refine ⟨[], rfl, by rw [e], met_plain rfl rfl rfl (fun x hx => ?_) (hs.mono fun _ _ h => h.elim)⟩
      rw [rowsNow_nil] at hx
      exact (hrw.row x hx).far (fun g hg => hs.far (heap_lt_of_own (hrw.row x hx) hg) (fun i h => h.elim))
    by_cases hlen : n' = m'
    · subst hlen
      refine Seg.wp host _ (sameA ab n' ac bb n' bc) sameA1_n (sameA1_1 ab n' ac bb n' bc) (sameA1_2 ab n' ac bb n' bc) (by simp [sameA1_o]) hfr (Looks.nil _).met fun ν j a1 w1 hfr1 hp1 => ?_
      refine loop_after (i := 4) (by kernel_rfl) (fun m a w => ∃ i, m = n' - i ∧ i ≤ n' ∧ (xv.map valU).take i = (yv.map valU).take i ∧ Sub (fun _ _ => False) w0 w ∧ Fr Tryd.f23.ntmps (sameK ab n' ac bb n' bc i) a) n' ⟨0, rfl, Nat.zero_le _, rfl, post_sub_n hp1, hfr1⟩ ?_
      rintro m a2 w2 ⟨i, rfl, hi, htk, hs2, hfr2⟩ Y hY _
      by_cases hlt : i < n'
      · obtain ⟨x, hx⟩ : ∃ x, x = (xv.map valU).getD i 0 := ⟨_, rfl⟩
        obtain ⟨y, hy⟩ : ∃ y, y = (yv.map valU).getD i 0 := ⟨_, rfl⟩
        have hv := val_at hu (i := i) (by omega)
        have hv' := val_at hu' (i := i) (by omega)
        rw [← hx] at hv
        rw [← hy] at hv'
        have ex : (xv.map valU)[i]? = some x := by rw [List.getElem?_map, hv]; rfl
        have ey : (yv.map valU)[i]? = some y := by rw [List.getElem?_map, hv']; rfl
        have hl3 : Sy.Looks w2 [(ab, i, .int .u64 x), (bb, i, .int .u64 y)] := looks_add (looks_add (Looks.nil _) (sub_cell hs2 (hatb i _ hv') id) (fun z hz => by cases hz)) (sub_cell hs2 (hata i _ hv) id) (fun z hz => by
          rw [List.mem_singleton.1 hz]
          exact fun hh => hne hh.1)
        by_cases hxy : x = y
        · refine Seg.wp host _ (sameR ab n' ac bb n' bc i x y) sameR1_n (sameR1_1 ab n' ac bb n' bc i x y) (sameR1_2 ab n' ac bb n' bc i x y) (by simp [sameR1_o, hxy, hlt]) hfr2 hl3.met fun ν j a3 w3 hfr3 hp3 => ?_
          have hs3 := post_sub (left := (sameR1_o ab n' ac bb n' bc i x y ν j).2.2) hl3 hp3 (.same _)
          have ew : IntKind.i64.wrap ((i : Int) + 1) = ((i + 1 : Nat) : Int) := by rw [wrap_i64 (by omega) (by omega)]; simp
          simp only [sameR1_o, ew] at hfr3
          refine hY _ a3 w3 (show n' - (i + 1) < n' - i by omega) ⟨i + 1, rfl, hlt, ?_, sub_two hs2 hs3 (fun _ _ ⟨z, hz, _⟩ => by cases hz), hfr3⟩
          rw [List.take_add_one, List.take_add_one, htk, ex, ey, hxy]
        · refine Seg.wp host _ (sameR ab n' ac bb n' bc i x y) sameR2_n (sameR2_1 ab n' ac bb n' bc i x y) (sameR2_2 ab n' ac bb n' bc i x y) (by simp [sameR2_o, hxy, hlt]) hfr2 hl3.met fun ν j a3 w3 hfr3 hp3 => ?_
          have hs3 := post_sub (left := (sameR2_o ab n' ac bb n' bc i x y ν j).2.2) hl3 hp3 (.same _)
          refine fin false (sub_two hs2 hs3 (fun _ _ ⟨z, hz, _⟩ => by cases hz)) (decide_eq_false fun e => hxy ?_).symm
          rw [e, ey] at ex
          exact (Option.some.inj ex).symm
      · have e : i = n' := by omega
        subst e
        refine Seg.wp host _ (sameX ab i ac bb i bc i) sameX1_n (sameX1_1 ab i ac bb i bc i) (sameX1_2 ab i ac bb i bc i) (by simp [sameX1_o]) hfr2 (Looks.nil _).met fun ν j a3 w3 hfr3 hp3 => ?_
        refine fin true (sub_two hs2 (post_sub_n hp3) (fun _ _ h => h.elim)) (decide_eq_true ?_).symm
        rw [List.take_of_length_le (by simp; omega), List.take_of_length_le (by simp; omega)] at htk
        exact htk
    · refine Seg.wp host _ (sameA ab n' ac bb m' bc) sameA2_n (sameA2_1 ab n' ac bb m' bc) (sameA2_2 ab n' ac bb m' bc) (by simp [sameA2_o]; omega) hfr (Looks.nil _).met fun ν j a1 w1 hfr1 hp1 => ?_
      refine fin false (post_sub_n hp1) (decide_eq_false fun e => hlen ?_).symm
      have := congrArg List.length e
      simp at this
      omega
  · exact good_fail
end Go.Proofs.YtfdgggikjnoghaaDoor
