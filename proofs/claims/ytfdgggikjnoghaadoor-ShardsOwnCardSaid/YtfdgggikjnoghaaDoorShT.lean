/- The document's lists of numbers: Copy, Same as contracts. -/
import Derived.Test.YtfdgggikjnoghaaDoorShS
namespace Go.Proofs.YtfdgggikjnoghaaDoor
open Go Sy Close
set_option maxRecDepth 100000
def loadNums (v : Value) (k : Nat → List Int → CP) : CP := .row v 32 1 fun n xs => needs (xs.all isU64) (k n (xs.map valU))
def copyP (args : Array Value) : CP := match args.toList with
  | [.slice (some ⟨lb, 0, none⟩) n c] => needs (Nat.blt 0 n && Nat.ble n 65536) <| loadNums (.slice (some ⟨lb, 0, none⟩) n c) fun _ xs => outP n xs
  | _ => .fail
theorem val_at {xv : List Value} (hu : xv.all isU64 = true) {i : Nat} (hi : i < xv.length) : xv[i]? = some (.int .u64 ((xv.map valU).getD i 0)) := by
  have h4 := List.all_eq_true.1 hu _ (List.getElem_mem hi)
  rw [List.getD_eq_getElem?_getD, List.getElem?_map, List.getElem?_eq_getElem hi]
  revert h4
  generalize xv[i] = v
  intro h4
  unfold isU64 at h4
  split at h4
  · rfl
  · cases h4
/-- What holds ahead of each round. -/
structure CInv (w0 : World) (n : Nat) (xs : List Int) (i : Nat) (so : Option Addr) (co : Nat) (w1 : World) : Prop where
  le : i ≤ n
  out : w1.ownsRow 0 32 1 (.slice so i co) i ((xs.take i).map u64V)
  new : ∀ g, (Value.slice so i co).ownBlock = some g → w0.heap.size ≤ g
  sub : Sub (fun _ _ => False) w0 w1
theorem copy_ok : (⟨26, copyP⟩ : Contract).Ok Tryd.prog := con_start fun args w0 => by
  unfold copyP
  split
  · rename_i lb n c hargs
    obtain rfl := args_of hargs
    refine good_needs fun hn => Sy.good_row fun n' xv => good_needs fun hu => good_doneR fun hl hrw => calls_after (X := fun _ _ _ => False) (fn := Tryd.f26) Tryd.func26 rfl (show 1 ≤ Tryd.f26.ntmps by decide) fun a hfr => ?_
    simp only [Bool.and_eq_true, Nat.blt_eq, Nat.ble_eq] at hn
    obtain ⟨hn0, hn1⟩ := hn
    have hrow : w0.ownsRow 0 32 1 (.slice (some ⟨lb, 0, none⟩) n c) n' xv := hrw.row _ (List.mem_singleton.2 rfl)
    obtain ⟨e1, e2, hat⟩ := owns_at hrow
    subst e1
    have hws : lb < w0.heap.size := heap_lt_of_own hrow rfl
    have hxl : (xv.map valU).length = n' := by simpa using e2
    refine Seg.wp host _ (copyA (some ⟨lb, 0, none⟩) n' c) copyA1_n (copyA1_1 (some ⟨lb, 0, none⟩) n' c) (copyA1_2 (some ⟨lb, 0, none⟩) n' c) (fun ν j p hp => by simp [copyA1_o] at hp) hfr (Looks.nil _).met fun ν j a1 w1 hfr1 hp1 => ?_
    have hI : CInv w0 n' (xv.map valU) 0 none 0 w1 := ⟨Nat.zero_le _, World.ownsRow_nil .., fun g hg => (by cases hg), post_sub_n hp1⟩
    refine loop_after (i := 3) (by kernel_rfl) (fun m a w => ∃ i so co, m = n' - i ∧ CInv w0 n' (xv.map valU) i so co w ∧ Fr Tryd.f26.ntmps (copyK lb 0 n' c i so i co) a) n' ⟨0, none, 0, rfl, hI, hfr1⟩ ?_
    rintro m a2 w2 ⟨i, so, co, rfl, hI2, hfr2⟩ Y hY _
    by_cases hlt : i < n'
    · obtain ⟨x, hx⟩ : ∃ x, x = (xv.map valU).getD i 0 := ⟨_, rfl⟩
      have hv := val_at hu (i := i) (by omega)
      rw [← hx] at hv
      have hl3 : Sy.Looks w2 [(lb, i, .int .u64 x)] := looks_add (Looks.nil _) (sub_cell hI2.sub (hat i _ hv) id) (fun y hy => by cases hy)
      have hm3 := looks_met_v (vs := [u64sV so i co (((xv.map valU).take i).map u64V)]) hl3 (fun y hy => by rw [List.mem_singleton.1 hy]; exact hI2.out) (fun y hy g hg z hz => by
        rw [List.mem_singleton.1 hy] at hg
        rw [List.mem_singleton.1 hz]
        have := hI2.new g hg
        simp only
        omega) (List.pairwise_singleton ..)
      refine Seg.wp host _ (copyR lb n' c i x so i co (((xv.map valU).take i).map u64V)) copyR1_n (copyR1_1 lb n' c i x so i co (((xv.map valU).take i).map u64V)) (copyR1_2 lb n' c i x so i co (((xv.map valU).take i).map u64V)) ?_ hfr2 hm3 fun ν j a3 w3 hfr3 hp3 => ?_
      · simp [copyR1_o, u64sV, addV_eq, maxLen]
        omega
      · have hs3 := post_sub_v (left := (copyR1_o lb n' c i x so i co (((xv.map valU).take i).map u64V) ν j).2.2) hl3 hp3 (.same _)
        have hv3 := hp3.vecs
        have ho3 := hp3.vold
        have ew : IntKind.i64.wrap ((i : Int) + 1) = ((i + 1 : Nat) : Int) := by rw [wrap_i64 (by omega) (by omega)]; simp
        have et : ((xv.map valU).take i).map u64V ++ [.int .u64 x] = ((xv.map valU).take (i + 1)).map u64V := by
          rw [List.take_add_one, List.getElem?_eq_getElem (by omega), List.map_append, hx, List.getD_eq_getElem?_getD, List.getElem?_eq_getElem (by omega)]
          rfl
        obtain ⟨g3, co3, hg3⟩ : ∃ g3 co3, (copyR1_o lb n' c i x so i co (((xv.map valU).take i).map u64V) ν j).2.2.vecs = [⟨32, 1, .slice (some ⟨g3, 0, none⟩) (addV i 1) co3, addV i 1, ((xv.map valU).take i).map u64V ++ [.int .u64 x]⟩] ∧ (copyR1_o lb n' c i x so i co (((xv.map valU).take i).map u64V) ν j).2.1 = [(0, .slice (some ⟨lb, 0, none⟩) n' c), (3, .slice (some ⟨g3, 0, none⟩) (addV i 1) co3), (4, .int .i64 (IntKind.i64.wrap ((i : Int) + 1)))] := ⟨_, _, rfl, rfl⟩
        obtain ⟨hvs, hlv⟩ := hg3
        rw [hvs] at hv3 ho3
        have hv3 := hv3 _ (List.mem_singleton.2 rfl)
        have ho3 := ho3 _ (List.mem_singleton.2 rfl)
        rw [hlv, ew] at hfr3
        rw [et] at hv3
        simp only [addV_eq] at hv3 ho3 hfr3
        refine hY _ a3 w3 (show n' - (i + 1) < n' - i by omega) ⟨i + 1, some ⟨g3, 0, none⟩, co3, rfl, ⟨hlt, hv3, fun g hg => ?_, sub_two hI2.sub hs3 (fun k j h => ?_)⟩, hfr3⟩
        · rcases ho3 g hg with ⟨y, hy, hy'⟩ | h
          · rw [List.mem_singleton.1 hy] at hy'
            exact hI2.new g hy'
          · exact Nat.le_trans hI2.sub.size h
        · rcases h with ⟨y, hy, _⟩ | ⟨y, hy, e⟩
          · cases hy
          · rw [List.mem_singleton.1 hy] at e
            exact .inr (hI2.new k e)
    · have e : i = n' := by have := hI2.le; omega
      subst e
      refine Seg.wp host _ (copyX lb i c i so i co) copyX1_n (copyX1_1 lb i c i so i co) (copyX1_2 lb i c i so i co) (by simp [copyX1_o]) hfr2 (Looks.nil _).met fun ν j a3 w3 hfr3 hp3 => ?_
      obtain ⟨g, rfl⟩ := owns_some hI2.out hn0
      have hs3 := sub_two hI2.sub (post_sub_n hp3) (fun _ _ h => h.elim)
      have hout : w3.ownsRow 0 32 1 (.slice (some ⟨g, 0, none⟩) i co) i ((xv.map valU).map u64V) := by
        have := hI2.out
        rw [List.take_of_length_le (by omega)] at this
        exact this.far (fun g hg => (post_sub_n hp3).far (heap_lt_of_own this hg) (fun i h => h.elim))
      refine ⟨[g, co], rfl, rfl, ⟨by simp [outV], by simp [outV], by simp [outV], fun x hx => ?_, fun x hx g' hg => ⟨?_, by simp [outV]⟩, List.pairwise_singleton .., fun x hx => ?_, hs3.mono fun _ _ h => h.elim⟩⟩
      · rw [List.mem_singleton.1 hx]; exact hout
      · rw [List.mem_singleton.1 hx] at hg
        exact hI2.new g' hg
      · have := List.mem_singleton.1 (show x ∈ [_] from hx)
        rw [this]
        exact hrow.far (fun g hg => hs3.far (heap_lt_of_own hrow hg) (fun i h => h.elim))
  · exact good_fail
end Go.Proofs.YtfdgggikjnoghaaDoor
