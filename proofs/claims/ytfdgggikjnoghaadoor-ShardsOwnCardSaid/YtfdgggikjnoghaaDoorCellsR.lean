/- Cells: what Do does, as a contract over the whole list of words. -/
import Derived.Test.YtfdgggikjnoghaaDoorCellsB
namespace Go.Proofs.YtfdgggikjnoghaaDoor
open Go Sy
set_option maxRecDepth 100000
namespace Sy
/-- Whole numbers in a list of values. -/
def valU : Value → Int
  | .int .u64 z => z
  | _ => 0
def isU64 : Value → Bool
  | .int .u64 _ => true
  | _ => false
def u64V (z : Int) : Value := .int .u64 z
theorem map_valU (l : List Int) : (l.map u64V).map valU = l := by
  rw [List.map_map]
  exact List.map_id'' (fun _ => rfl) l
theorem all_u64 (l : List Int) : (l.map u64V).all isU64 = true := by simp [isU64, u64V]
theorem map_u64V {l : List Value} (h : l.all isU64 = true) : (l.map valU).map u64V = l := by
  rw [List.map_map]
  refine (List.map_congr_left fun x hx => ?_).trans (List.map_id l)
  have := List.all_eq_true.1 h x hx
  revert this
  unfold isU64
  split
  · intro _; rfl
  · intro h; cases h

theorem owns_at {w : World} {e n n' g c : Nat} {xs : List Value} (h : w.ownsRow 0 e 1 (.slice (some ⟨g, 0, none⟩) n c) n' xs) : n' = n ∧ xs.length = n ∧ ∀ i v, xs[i]? = some v → w.cell? ⟨g, i, none⟩ = some v ∧ w.frozen? ⟨g, i, none⟩ = false := by
  obtain ⟨h0, ⟨h1, _⟩ | ⟨g', cap, cur, h1, _, h3, h4, _, h5, h6⟩⟩ := h
  · cases h1
  · simp only [Value.slice.injEq, Option.some.injEq, Addr.mk.injEq, and_true] at h1
    obtain ⟨rfl, rfl, rfl⟩ := h1
    refine ⟨rfl, by omega, fun i v hv => ?_⟩
    rw [← h6] at hv
    have hi := (List.getElem?_eq_some_iff.1 hv).1
    simp only [List.length_take, Array.length_toList] at hi
    rw [List.getElem?_take_of_lt (by omega)] at hv
    refine ⟨?_, ?_⟩
    · simp only [World.cell?, h3, Option.isSome_none, Bool.false_eq_true, if_false]
      simpa using hv
    · simp [World.frozen?, h3]
theorem owns_set {C : Nat → Nat → Prop} {w w' : World} {e n n' g c i : Nat} {xs : List Value} {v : Value} (h : w.ownsRow 0 e 1 (.slice (some ⟨g, 0, none⟩) n c) n' xs) (hs : Sub C w w') (hC : ∀ j, C g j → j = i) (hi : i < n) (hv : w'.cell? ⟨g, i, none⟩ = some v) :
    w'.ownsRow 0 e 1 (.slice (some ⟨g, 0, none⟩) n c) n' (xs.set i v) := by
  obtain ⟨h0, ⟨h1, _⟩ | ⟨g', cap, cur, h1, hb, h3, h4, h5, h6, h7⟩⟩ := h
  · cases h1
  · simp only [Value.slice.injEq, Option.some.injEq, Addr.mk.injEq, and_true] at h1
    obtain ⟨rfl, rfl, rfl⟩ := h1
    have hl : g < w.heap.size := (Array.getElem?_eq_some_iff.1 h3).1
    obtain ⟨c', e1, e2, e3⟩ := hs.block g hl _ h3
    refine ⟨by simpa using h0, .inr ⟨g, c, c', rfl, hb, e1, h4, h5, by rw [e2]; exact h6, ?_⟩⟩
    have hv' : c'[i]? = some v := by simpa [World.cell?, e1] using hv
    refine List.ext_getElem? fun j => ?_
    by_cases hj : j < n * 1
    · rw [List.getElem?_take_of_lt hj]
      by_cases e : j = i
      · subst e
        rw [List.getElem?_set_self (by omega)]
        simpa using hv'
      · rw [List.getElem?_set_ne (fun hh => e hh.symm), ← h7, List.getElem?_take_of_lt hj]
        have := e3 j (fun hh => e (hC j hh))
        simpa using this
    · rw [List.getElem?_eq_none (by simp; omega), List.getElem?_eq_none (by simp; omega)]

theorem set_self {l : List Value} {i : Nat} {v : Value} (h : l[i]? = some v) : l.set i v = l := by
  refine List.ext_getElem? fun j => ?_
  by_cases e : j = i
  · subst e
    rw [List.getElem?_set_self (List.getElem?_eq_some_iff.1 h).1, h]
  · rw [List.getElem?_set_ne (fun hh => e hh.symm)]
/-- A contract over an element of a row: over the row. -/
theorem met_elem {w w' : World} {e n n' g c i : Nat} {xs : List Value} {v : Value} {ls : List Nat} {z : Sy.Ends} {R : List Vec} (h0 : rowNow z.sets 0 xs = xs.set i v) (h1 : ∀ j ys, rowNow z.sets (j + 1) ys = ys) (h : w.ownsRow 0 e 1 (.slice (some ⟨g, 0, none⟩) n c) n' xs) (hi : i < n) (hR : ∀ x ∈ R, w.ownsRow 0 x.e x.size x.v x.n x.xs) (hd : ∀ x ∈ R, x.v.ownBlock ≠ some g)
    (hm : ({ z with st := (g, i, v) :: z.st, sets := [] } : Sy.Ends).Met ls [] w w') (hst : ∀ x ∈ z.st, x.1 ≠ g ∧ ∀ y ∈ R, y.v.ownBlock ≠ some x.1) : z.Met ls (⟨e, 1, .slice (some ⟨g, 0, none⟩) n c, n', xs⟩ :: R) w w' := by
  have hs : Sub (fun k j => (∃ x ∈ (g, i, v) :: z.st, x.1 = k ∧ x.2.1 = j)) w w' := hm.sub.less fun k j hc _ => by
    rcases hc with hc | ⟨x, hx, _⟩
    · exact .inl hc
    · cases hx
  refine ⟨fun x hx => hm.st x (List.mem_cons_of_mem _ hx), hm.news, hm.nodup, hm.vec, hm.vnew, hm.vdist, fun x hx => ?_, hm.sub.less fun k j hc _ => ?_⟩
  · rcases List.mem_cons.1 hx with rfl | hx
    · simp only [h0]
      refine owns_set h hs (fun j ⟨x, hx, e1, e2⟩ => ?_) hi (hm.st _ (List.mem_cons_self ..))
      rcases List.mem_cons.1 hx with rfl | hx
      · exact e2.symm
      · exact absurd e1 (hst x hx).1
    · obtain ⟨j, y, hy, rfl⟩ := mem_rowsNow hx
      have hy' := List.mem_of_getElem? hy
      have e0 : rowNow z.sets (0 + 1 + j) y.xs = y.xs := by rw [show 0 + 1 + j = j + 1 by omega]; exact h1 j _
      rw [e0]
      refine (hR y hy').far (fun k hk => hs.far (heap_lt_of_own (hR y hy') hk) (fun j ⟨x, hx, e1, _⟩ => ?_))
      rcases List.mem_cons.1 hx with rfl | hx
      · exact hd y hy' (by rw [hk, ← e1])
      · exact (hst x hx).2 y hy' (by rw [hk, e1])
  · rcases hc with ⟨x, hx, e1, e2⟩ | ⟨x, hx, _⟩
    · rcases List.mem_cons.1 hx with rfl | hx
      · exact .inl (.inr ⟨_, List.mem_cons_self .., by rw [← e1]; rfl⟩)
      · exact .inl (.inl ⟨x, hx, e1, e2⟩)
    · cases hx
end Sy
def loadRow (v : Value) (k : Nat → List Int → CP) : CP := .row v 91 1 fun n xs => needs (xs.all isU64) (k n (xs.map valU))
def seeAt (xs : List Int) (i : Int) : Int := xs.getD i.toNat 0
def putAt (xs : List Int) (i x : Int) : List Int := xs.set i.toNat x
def doRQ (n : Nat) (xs : List Int) (cell kd old new : Int) : CP := match old with
  | 0 => needs (decide (0 ≤ cell) && decide (cell < n)) (match kd with
    | 1 => (match new with
      | 0 => .done 0 fun _ => { res := .tuple #[didV 1 cell (seeAt xs cell) (seeAt xs cell) true, .int .i64 0] }
      | _ => .fail)
    | 2 => .done 0 fun _ => { res := .tuple #[didV 2 cell (seeAt xs cell) new true, .int .i64 0], sets := [(0, (putAt xs cell new).map u64V)] }
    | 3 => .done 0 fun _ => { res := .tuple #[didV 3 cell (IntKind.u64.wrap (IntKind.u64.wrap (seeAt xs cell + new) - new)) (IntKind.u64.wrap (seeAt xs cell + new)) true, .int .i64 0], sets := [(0, (putAt xs cell (IntKind.u64.wrap (seeAt xs cell + new))).map u64V)] }
    | 4 => .done 0 fun _ => { res := .tuple #[didV 4 cell (seeAt xs cell) new true, .int .i64 0], sets := [(0, (putAt xs cell new).map u64V)] }
    | _ => .fail)
  | _ => .fail
def doRP (args : Array Value) : CP := match args.toList with
  | [.pointer (some ⟨cb, 0, none⟩), .agg ⟨[.int .u8 kd, .int .i64 cell, .int .u64 old, .int .u64 new]⟩] =>
    loadsB 0 usesL <| loadSl ⟨cb, 0, none⟩ fun ws n c => loadRow (.slice (some ⟨ws, 0, none⟩) n c) fun _ xs => doRQ n xs cell kd old new
  | _ => .fail
theorem doR_ok : (⟨38, doRP⟩ : Contract).Ok Tryd.prog := by
  refine con_start fun args w => ?_
  unfold doRP
  split
  · rename_i cb kd cell old new hargs
    obtain rfl := args_of hargs
    refine good_bools (good_sl fun ws n cap => Sy.good_row fun n' xs => good_needs fun hu => ?_)
    unfold doRQ
    split
    · refine good_needs fun hn => ?_
      simp only [Bool.and_eq_true, decide_eq_true_eq] at hn
      have key : ∀ {x : Int}, seeAt (xs.map valU) cell = x → RowsOk w ((cb, 0, .slice (some ⟨ws, 0, none⟩) n cap) :: bools 0 usesL []) [⟨91, 1, .slice (some ⟨ws, 0, none⟩) n cap, n', xs⟩] → Looks w ((cb, 0, .slice (some ⟨ws, 0, none⟩) n cap) :: bools 0 usesL []) →
          n' = n ∧ cell.toNat < n ∧ Looks w ((ws, cell.toNat, .int .u64 x) :: (cb, 0, .slice (some ⟨ws, 0, none⟩) n cap) :: bools 0 usesL []) ∧ xs.set cell.toNat (.int .u64 x) = xs := fun {x} hx hr hl => by
        have h1 : w.ownsRow 0 91 1 (.slice (some ⟨ws, 0, none⟩) n cap) n' xs := hr.row _ (List.mem_singleton.2 rfl)
        obtain ⟨e1, e2, e3⟩ := owns_at h1
        have hlt : cell.toNat < xs.length := by omega
        have hv : xs[cell.toNat]? = some (.int .u64 x) := by
          have h4 := List.all_eq_true.1 hu _ (List.getElem_mem hlt)
          have h5 : seeAt (xs.map valU) cell = valU xs[cell.toNat] := by simp [seeAt, List.getD_eq_getElem?_getD, List.getElem?_map, List.getElem?_eq_getElem hlt]
          rw [List.getElem?_eq_getElem hlt, ← hx, h5]
          revert h4
          generalize xs[cell.toNat] = v
          intro h4
          unfold isU64 at h4
          split at h4
          · rfl
          · cases h4
        refine ⟨e1, by omega, hl.cons (fun hm => ?_) (e3 _ _ hv).1 (e3 _ _ hv).2, set_self hv⟩
        obtain ⟨y, hy, e⟩ := List.mem_map.1 hm
        simp only [Addr.mk.injEq, and_true] at e
        exact hr.off _ (List.mem_singleton.2 rfl) ws rfl y hy e.1
      have set_eq : ∀ (y : Int), xs.set cell.toNat (.int .u64 y) = (putAt (xs.map valU) cell y).map u64V := fun y => by
        rw [putAt, List.map_set, map_u64V hu]; rfl
      split
      · split
        · refine good_doneR fun hl hr => ?_
          obtain ⟨e1, hlt, hl', same_set⟩ := key rfl hr hl
          subst e1
          refine (good_walk host do1_n (c := do1C cb ws n' cap cell (seeAt (xs.map valU) cell)) (do1_1 cb ws n' cap cell (seeAt (xs.map valU) cell)) (do1_2 cb ws n' cap cell (seeAt (xs.map valU) cell)) (n := 0)
            (z := fun _ => { res := .tuple #[didV 1 cell (seeAt (xs.map valU) cell) (seeAt (xs.map valU) cell) true, .int .i64 0], st := [(ws, cell.toNat, .int .u64 (seeAt (xs.map valU) cell))] }) ?_ rfl hl' ?_).mono fun e w' ⟨ls, q1, q2, q3⟩ => ⟨ls, q1, q2, met_elem (by simp only [rowNow, same_set]) (fun _ _ => rfl) (hr.row _ (List.mem_singleton.2 rfl)) hlt (by simp) (by simp) q3 (by simp)⟩
          · simp [do1_o]; omega
          · exact fun ν => ⟨[], rfl, rfl, rfl, .set (.same _), rfl, rfl⟩
        · exact good_fail
      · refine good_doneR fun hl hr => ?_
        obtain ⟨e1, hlt, hl', same_set⟩ := key rfl hr hl
        subst e1
        refine (good_walk host do2_n (c := do2C cb ws n' cap cell new (seeAt (xs.map valU) cell)) (do2_1 cb ws n' cap cell new (seeAt (xs.map valU) cell)) (do2_2 cb ws n' cap cell new (seeAt (xs.map valU) cell)) (n := 0)
          (z := fun _ => { res := .tuple #[didV 2 cell (seeAt (xs.map valU) cell) new true, .int .i64 0], st := [(ws, cell.toNat, .int .u64 new)] }) ?_ rfl hl' ?_).mono fun e w' ⟨ls, q1, q2, q3⟩ => ⟨ls, q1, q2, met_elem (by simp only [rowNow, set_eq]) (fun _ _ => rfl) (hr.row _ (List.mem_singleton.2 rfl)) hlt (by simp) (by simp) q3 (by simp)⟩
        · simp [do2_o]; omega
        · exact fun ν => ⟨[], rfl, rfl, rfl, .set (.same _), rfl, rfl⟩
      · refine good_doneR fun hl hr => ?_
        obtain ⟨e1, hlt, hl', same_set⟩ := key rfl hr hl
        subst e1
        refine (good_walk host do3_n (c := do3C cb ws n' cap cell new (seeAt (xs.map valU) cell)) (do3_1 cb ws n' cap cell new (seeAt (xs.map valU) cell)) (do3_2 cb ws n' cap cell new (seeAt (xs.map valU) cell)) (n := 0)
          (z := fun _ => { res := .tuple #[didV 3 cell (IntKind.u64.wrap (IntKind.u64.wrap (seeAt (xs.map valU) cell + new) - new)) (IntKind.u64.wrap (seeAt (xs.map valU) cell + new)) true, .int .i64 0], st := [(ws, cell.toNat, .int .u64 (IntKind.u64.wrap (seeAt (xs.map valU) cell + new)))] }) ?_ rfl hl' ?_).mono fun e w' ⟨ls, q1, q2, q3⟩ => ⟨ls, q1, q2, met_elem (by simp only [rowNow, set_eq]) (fun _ _ => rfl) (hr.row _ (List.mem_singleton.2 rfl)) hlt (by simp) (by simp) q3 (by simp)⟩
        · simp [do3_o]; omega
        · exact fun ν => ⟨[], rfl, rfl, rfl, .set (.same _), rfl, rfl⟩
      · refine good_doneR fun hl hr => ?_
        obtain ⟨e1, hlt, hl', same_set⟩ := key rfl hr hl
        subst e1
        refine (good_walk host do4_n (c := do4C cb ws n' cap cell new (seeAt (xs.map valU) cell)) (do4_1 cb ws n' cap cell new (seeAt (xs.map valU) cell)) (do4_2 cb ws n' cap cell new (seeAt (xs.map valU) cell)) (n := 0)
          (z := fun _ => { res := .tuple #[didV 4 cell (seeAt (xs.map valU) cell) new true, .int .i64 0], st := [(ws, cell.toNat, .int .u64 new)] }) ?_ rfl hl' ?_).mono fun e w' ⟨ls, q1, q2, q3⟩ => ⟨ls, q1, q2, met_elem (by simp only [rowNow, set_eq]) (fun _ _ => rfl) (hr.row _ (List.mem_singleton.2 rfl)) hlt (by simp) (by simp) q3 (by simp)⟩
        · simp [do4_o]; omega
        · exact fun ν => ⟨[], rfl, rfl, rfl, .set (.same _), rfl, rfl⟩
      · exact good_fail
    · exact good_fail
  · exact good_fail
end Go.Proofs.YtfdgggikjnoghaaDoor
