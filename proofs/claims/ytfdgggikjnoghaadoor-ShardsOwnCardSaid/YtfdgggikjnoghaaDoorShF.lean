/- Sharded counters: All as a contract. -/
import Derived.Test.YtfdgggikjnoghaaDoorShE
namespace Go.Proofs.YtfdgggikjnoghaaDoor
open Go Sy Close
set_option maxRecDepth 100000
def outV (g cap n : Nat) (xs : List Int) : Sy.Ends := { res := .slice (some ⟨g, 0, none⟩) n cap, vecs := [u64sV (some ⟨g, 0, none⟩) n cap (xs.map u64V)] }
def outP (n : Nat) (xs : List Int) : CP := .done 2 fun l => match l with
  | [g, cap] => outV g cap n xs
  | _ => { res := nilP }
def cAllP (args : Array Value) : CP := match args.toList with
  | [.pointer (some ⟨cb, 0, none⟩)] => loadSl ⟨cb, 0, none⟩ fun ws n cap => needs (Nat.blt 0 n && Nat.ble n 65536) <| loadRow (.slice (some ⟨ws, 0, none⟩) n cap) fun _ xs => outP n xs
  | _ => .fail
/-- What holds ahead of each round. -/
structure AInv (w0 : World) (cb ws n cap : Nat) (xs : List Int) (i : Nat) (so : Option Addr) (co : Nat) (w1 : World) : Prop where
  le : i ≤ n
  looks : Sy.Looks w1 [(cb, 0, .slice (some ⟨ws, 0, none⟩) n cap)]
  out : w1.ownsRow 0 32 1 (.slice so i co) i ((xs.take i).map u64V)
  new : ∀ g, (Value.slice so i co).ownBlock = some g → w0.heap.size ≤ g
  sub : Sub (fun _ _ => False) w0 w1
theorem cAll_ok : (⟨36, cAllP⟩ : Contract).Ok Tryd.prog := con_start fun args w0 => by
  unfold cAllP
  split
  · rename_i cb hargs
    obtain rfl := args_of hargs
    refine good_sl fun ws n cap => good_needs fun hn => Sy.good_row fun n' xv => good_needs fun hu => good_doneR fun hl hrw => calls_after (X := fun _ _ _ => False) (fn := Tryd.f36) Tryd.func36 rfl (show 1 ≤ Tryd.f36.ntmps by decide) fun a hfr => ?_
    simp only [Bool.and_eq_true, Nat.blt_eq, Nat.ble_eq] at hn
    obtain ⟨hn0, hn1⟩ := hn
    have hrow : w0.ownsRow 0 91 1 (.slice (some ⟨ws, 0, none⟩) n cap) n' xv := hrw.row _ (List.mem_singleton.2 rfl)
    obtain ⟨e1, e2, hat⟩ := owns_at hrow
    subst e1
    have hws : ws < w0.heap.size := heap_lt_of_own hrow rfl
    have hcb : cb ≠ ws := hrw.off _ (List.mem_singleton.2 rfl) ws rfl _ (List.mem_singleton.2 rfl)
    have hxl : (xv.map valU).length = n' := by simpa using e2
    refine Seg.wp host2 _ (allA cb ws n' cap) allA1_n (allA1_1 cb ws n' cap) (allA1_2 cb ws n' cap) (fun ν j p hp => by simp [allA1_o] at hp) hfr hl.met fun ν j a1 w1 hfr1 hp1 => ?_
    have hI : AInv w0 cb ws n' cap (xv.map valU) 0 none 0 w1 := ⟨Nat.zero_le _, post_looks (left := (allA1_o cb ws n' cap ν j).2.2) hl hp1 (.same _), World.ownsRow_nil .., fun g hg => (by cases hg), (post_sub (left := (allA1_o cb ws n' cap ν j).2.2) hl hp1 (.same _)).mono (fun _ _ ⟨x, hx, _⟩ => by cases hx)⟩
    refine loop_after (i := 3) (by kernel_rfl) (fun m a w => ∃ i so co, m = n' - i ∧ AInv w0 cb ws n' cap (xv.map valU) i so co w ∧ Fr Tryd.f36.ntmps (allK cb n' i so i co) a) n' ⟨0, none, 0, rfl, hI, hfr1⟩ ?_
    rintro m a2 w2 ⟨i, so, co, rfl, hI2, hfr2⟩ Y hY _
    by_cases hlt : i < n'
    · have hv : xv[i]? = some (.int .u64 ((xv.map valU).getD i 0)) := by
        have hi : i < xv.length := by omega
        have h4 := List.all_eq_true.1 hu _ (List.getElem_mem hi)
        rw [List.getD_eq_getElem?_getD, List.getElem?_map, List.getElem?_eq_getElem hi]
        revert h4
        generalize xv[i] = v
        intro h4
        unfold isU64 at h4
        split at h4
        · rfl
        · cases h4
      obtain ⟨x, hx⟩ : ∃ x, x = (xv.map valU).getD i 0 := ⟨_, rfl⟩
      rw [← hx] at hv
      have hc := hat i _ hv
      have hl3 : Sy.Looks w2 [(ws, i, .int .u64 x), (cb, 0, .slice (some ⟨ws, 0, none⟩) n' cap)] := looks_add hI2.looks (sub_cell hI2.sub hc id) (fun y hy => by
        rw [List.mem_singleton.1 hy]
        exact fun hh => hcb hh.1.symm)
      have hoff : ∀ g, (Value.slice so i co).ownBlock = some g → Off g [(ws, i, .int .u64 x), (cb, 0, .slice (some ⟨ws, 0, none⟩) n' cap)] := fun g hg y hy => by
        have h1 := hI2.new g hg
        have h2 := lt_of_cell? (hl.cell _ (List.mem_singleton.2 rfl)).1
        simp only [List.mem_cons, List.not_mem_nil, or_false] at hy
        rcases hy with rfl | rfl
        · simp only; omega
        · simp only at h2 ⊢; omega
      have hm3 := looks_met_v (vs := [u64sV so i co (((xv.map valU).take i).map u64V)]) hl3 (fun y hy => by rw [List.mem_singleton.1 hy]; exact hI2.out) (fun y hy g hg => by
        rw [List.mem_singleton.1 hy] at hg
        exact hoff g hg) (List.pairwise_singleton ..)
      refine Seg.wp host2 _ (allR cb ws n' cap i x so i co (((xv.map valU).take i).map u64V)) allR1_n (allR1_1 cb ws n' cap i x so i co (((xv.map valU).take i).map u64V)) (allR1_2 cb ws n' cap i x so i co (((xv.map valU).take i).map u64V)) ?_ hfr2 hm3 fun ν j a3 w3 hfr3 hp3 => ?_
      · simp [allR1_o, u64sV, addV_eq, maxLen]
        omega
      · have hs3 := post_sub_v (left := (allR1_o cb ws n' cap i x so i co (((xv.map valU).take i).map u64V) ν j).2.2) hl3 hp3 (.same _)
        have hv3 := hp3.vecs
        have ho3 := hp3.vold
        have hlk := post_looks_v (left := (allR1_o cb ws n' cap i x so i co (((xv.map valU).take i).map u64V) ν j).2.2) hl3 hp3 (.same _)
        have ew : IntKind.i64.wrap ((i : Int) + 1) = ((i + 1 : Nat) : Int) := by rw [wrap_i64 (by omega) (by omega)]; simp
        have et : ((xv.map valU).take i).map u64V ++ [.int .u64 x] = ((xv.map valU).take (i + 1)).map u64V := by
          rw [List.take_add_one, List.getElem?_eq_getElem (by omega), List.map_append, hx, List.getD_eq_getElem?_getD, List.getElem?_eq_getElem (by omega)]
          rfl
        obtain ⟨g3, co3, hg3⟩ : ∃ g3 co3, (allR1_o cb ws n' cap i x so i co (((xv.map valU).take i).map u64V) ν j).2.2.vecs = [⟨32, 1, .slice (some ⟨g3, 0, none⟩) (addV i 1) co3, addV i 1, ((xv.map valU).take i).map u64V ++ [.int .u64 x]⟩] ∧ (allR1_o cb ws n' cap i x so i co (((xv.map valU).take i).map u64V) ν j).2.1 = [(0, .pointer (some ⟨cb, 0, none⟩)), (3, .slice (some ⟨g3, 0, none⟩) (addV i 1) co3), (6, .int .i64 n'), (7, .int .i64 (IntKind.i64.wrap ((i : Int) + 1)))] := ⟨_, _, rfl, rfl⟩
        obtain ⟨hvs, hlv⟩ := hg3
        rw [hvs] at hv3 ho3
        have hv3 := hv3 _ (List.mem_singleton.2 rfl)
        have ho3 := ho3 _ (List.mem_singleton.2 rfl)
        rw [hlv, ew] at hfr3
        rw [et] at hv3
        simp only [addV_eq] at hv3 ho3 hfr3
        refine hY _ a3 w3 (show n' - (i + 1) < n' - i by omega) ⟨i + 1, some ⟨g3, 0, none⟩, co3, rfl, ⟨hlt, looks_tail hlk, hv3, fun g hg => ?_, sub_two hI2.sub hs3 (fun k j h => ?_)⟩, hfr3⟩
        · rcases ho3 g hg with ⟨y, hy, hy'⟩ | h
          · rw [List.mem_singleton.1 hy] at hy'
            exact hI2.new g hy'
          · exact Nat.le_trans hI2.sub.size h
        · rcases h with ⟨y, hy, _⟩ | ⟨y, hy, e⟩
          · cases hy
          · rw [List.mem_singleton.1 hy] at e
            exact .inr (hI2.new k e)
    · have e : i = n' := by have := hI2.le; omega
      subst e
      refine Seg.wp host2 _ (allX cb i i so i co) allX1_n (allX1_1 cb i i so i co) (allX1_2 cb i i so i co) (by simp [allX1_o]) hfr2 (Looks.nil _).met fun ν j a3 w3 hfr3 hp3 => ?_
      obtain ⟨g, rfl⟩ := owns_some hI2.out hn0
      have hs3 := sub_two hI2.sub (post_sub_n hp3) (fun _ _ h => h.elim)
      have hout : w3.ownsRow 0 32 1 (.slice (some ⟨g, 0, none⟩) i co) i ((xv.map valU).map u64V) := by
        have := hI2.out
        rw [List.take_of_length_le (by omega)] at this
        exact this.far (fun g hg => (post_sub_n hp3).far (heap_lt_of_own this hg) (fun i h => h.elim))
      refine ⟨[g, co], rfl, rfl, ⟨by simp [outV], by simp [outV], by simp [outV], fun x hx => ?_, fun x hx g' hg => ⟨?_, by simp [outV]⟩, List.pairwise_singleton .., fun x hx => ?_, hs3.mono fun _ _ h => h.elim⟩⟩
      · rw [List.mem_singleton.1 hx]; exact hout
      · rw [List.mem_singleton.1 hx] at hg
        exact hI2.new g' hg
      · have := List.mem_singleton.1 (show x ∈ [_] from hx)
        rw [this]
        exact hrow.far (fun g hg => hs3.far (heap_lt_of_own hrow hg) (fun i h => h.elim))
  · exact good_fail
end Go.Proofs.YtfdgggikjnoghaaDoor
