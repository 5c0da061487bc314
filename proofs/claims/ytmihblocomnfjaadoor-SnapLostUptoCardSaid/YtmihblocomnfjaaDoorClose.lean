/- A law's row is closed: what was handed in reads as it did, where no old block has changed. -/
import Derived.Test.YtmihblocomnfjaaDoorSyHost
import Derived.Test.YtmihblocomnfjaaDoorCards
import Derived.Test.YtmihblocomnfjaaDoorTie
import Derived.ProofKit
import Derived.OpenShut
import Derived.ReadAgain
import Derived.ChangeOld
import Derived.Deep.DeepHandedRow
import Derived.Lib.LaidTab
set_option linter.unusedSimpArgs false
set_option linter.unusedVariables false
namespace Go.Proofs.YtmihblocomnfjaaDoor.Close
open Go Sy Go.ChangeShapes Go.WideShapes Go.ChangeAt Go.RowKit

/-- The old blocks are as they were. -/
structure Old (W W' : World) : Prop where
  os : W'.os = W.os
  output : W'.output = W.output
  size : W.heap.size ≤ W'.heap.size
  block : ∀ k, k < W.heap.size → W'.heap[k]? = W.heap[k]?
  fresh : ∀ k, W.heap.size ≤ k → ∀ c t f, W'.heap[k]? = some (.cells c t f) → f = (0, 0)

theorem old_of_sub {W W' : World} (h : Sub (fun k _ => W.heap.size ≤ k) W W') : Old W W' := by
  refine ⟨h.os, h.output, h.size, fun k hk => ?_, h.fresh⟩
  have e : W.heap[k]? = some W.heap[k] := Array.getElem?_eq_getElem hk
  have a := h.block k hk _ e
  rw [e]
  generalize W.heap[k] = o at a
  cases o with
  | cells c t f =>
    obtain ⟨c', h1, h2, h3⟩ := a
    have : c' = c := Array.ext_getElem? fun i => h3 i (by omega)
    rw [h1, this]
  | _ => exact a

theorem old_of_known {C : Nat → Nat → Prop} {W W' : World} (h : Sub C W W') (hc : ∀ k i, C k i → k < W.heap.size → W'.cell? ⟨k, i, none⟩ = W.cell? ⟨k, i, none⟩) : Old W W' := by
  refine ⟨h.os, h.output, h.size, fun k hk => ?_, h.fresh⟩
  have e : W.heap[k]? = some W.heap[k] := Array.getElem?_eq_getElem hk
  have a := h.block k hk _ e
  rw [e]
  generalize W.heap[k] = o at a e
  cases o with
  | cells c t f =>
    obtain ⟨c', h1, h2, h3⟩ := a
    have : c' = c := Array.ext_getElem? fun i => by
      by_cases hi : C k i
      · have := hc k i hi hk
        simpa [World.cell?, e, h1] using this
      · exact h3 i hi
    rw [h1, this]
  | _ => exact a

theorem Old.same {W W' : World} (h : Old W W') (p : MemPlace) (hp : p.block < W.heap.size) : W.sameAt W' p := by
  cases p with
  | cell b off =>
    show W'.cell? _ = W.cell? _
    have := h.block b hp
    simp only [World.cell?, this]
  | map b => exact h.block b hp

theorem Old.frozen {W W' : World} (h : Old W W') (a : Addr) : W'.frozen? a = W.frozen? a := by
  rcases Nat.lt_or_ge a.block W.heap.size with hl | hl
  · simp only [World.frozen?, h.block a.block hl]
  · have e1 : W.heap[a.block]? = none := Array.getElem?_eq_none hl
    simp only [World.frozen?, e1]
    cases e : W'.heap[a.block]? with
    | none => rfl
    | some o =>
      cases o with
      | cells c t f => rw [h.fresh _ hl c t f e]; simp
      | _ => rfl

theorem Old.kept {W W' : World} (h : Old W W') (may : MemPlace → Prop) : W.keptBut W' may := by
  refine ⟨h.os, h.output, fun i hi => ?_⟩
  rw [h.block i hi, Array.getElem?_eq_getElem hi]
  generalize W.heap[i] = o
  cases o with
  | cells c t f => exact ⟨rfl, rfl, rfl, fun _ _ => rfl⟩
  | map es clock => exact .inr ⟨rfl, rfl⟩
  | _ => rfl

variable {P : Program} {H : Type} {enc : TypeId × Value → H}

theorem Old.trod {W W' : World} (h : Old W W') (K : Kids P (· < P.types.size)) (hz : ∀ t e, t < P.types.size → P.underlying t = some (.slice e) → 0 < P.cellsOf e) {sp : Nat → Bool} :
    ∀ {ts : List TypeId} {vs : List Value} {ds : List (DataW H)} {ps : List MemPlace}, (∀ t ∈ ts, t < P.types.size) → DataW.TrodAll enc P W 0 (fun _ => true) true ts vs ds ps → (∀ p ∈ ps, sp p.block = true) → DataW.TrodAll enc P W' 0 sp true ts vs ds ps := by
  intro ts vs ds ps ht hh hs
  refine DataW.TrodAll.respare K hz ht ?_ hs
  have hlt := DataW.TrodAll.lt hh
  clear hs ht
  induction ts generalizing vs ds ps with
  | nil => cases vs <;> cases ds <;> first | exact hh | exact hh.elim
  | cons t ts ih =>
    cases vs with
    | nil => cases ds <;> exact hh.elim
    | cons v vs =>
      cases ds with
      | nil => exact hh.elim
      | cons d ds =>
        obtain ⟨p, q, ⟨fuel, h1⟩, h2, e⟩ := hh
        refine ⟨p, q, ⟨fuel, DataW.trod_carry _ _ _ _ h1 (fun x hx => h.same x (hlt x (by rw [e]; exact List.mem_append_left _ hx)))⟩, ih h2 (fun x hx => hlt x (by rw [e]; exact List.mem_append_right _ hx)), e⟩

theorem bools_of {w : World} {fuel : Nat} {t e : TypeId} {cs : List Value} {a b : Bool} {p : List MemPlace} (ht : P.underlying t = some (.array 2 e)) (he : P.underlying e = some .bool) (hc : P.cellsOf e = 1) (hct : P.cellsOf t = 2)
    (h : DataW.trod enc P w 0 (fun _ => true) false fuel t cs = some (.agg [.lit (.bool a), .lit (.bool b)], p)) : cs = [.bool a, .bool b] := by
  obtain ⟨xs, m, rfl, hx, hl, hn, hall⟩ := DataW.trod_array ht h
  simp only [Prod.mk.injEq, DataW.agg.injEq] at hx
  obtain ⟨hx, _⟩ := hx
  match xs, hn with
  | [x0, x1], _ =>
    simp only [List.map_cons, List.map_nil, List.cons.injEq, and_true] at hx
    have h0 := hall 0 (by omega)
    have h1 := hall 1 (by omega)
    simp only [hc, Nat.mul_one, List.getElem?_cons_zero, List.getElem?_cons_succ] at h0 h1
    obtain ⟨b0, e0, f0⟩ := DataW.trod_bool he h0
    obtain ⟨b1, e1, f1⟩ := DataW.trod_bool he h1
    rw [hct] at hl
    match cs, hl with
    | [c0, c1], _ =>
      simp only [List.drop_zero, List.take_succ_cons, List.take_zero, List.drop_succ_cons, List.cons.injEq, and_true] at e0 e1
      subst e0 e1
      rw [f0, f1] at hx
      simp only [DataW.lit.injEq, Lit.bool.injEq] at hx
      rw [hx.1, hx.2]

def usesList : List Value := [.bool false, .bool false, .bool false, .bool false, .bool false, .bool true, .bool false, .bool true, .bool false, .bool true, .bool true, .bool true]

set_option maxRecDepth 100000 in
/-- What the row's list gives: the table's cells. -/
theorem uses_cells {W : World} (h : laidMetH Tryd.prog [("abacus/cells.uses", Rows.laid_abacus_cells_uses)] W) :
    ∀ j v, usesList[j]? = some v → W.cell? ⟨0, j, none⟩ = some v ∧ W.frozen? ⟨0, j, none⟩ = false := by
  have hg : Tryd.prog.globalNamed "abacus/cells.uses" = some 0 := by kernel_rfl
  have hty : (Tryd.prog.globals[0]?).map (·.type) = some 102 := by kernel_rfl
  have ht : Tryd.prog.underlying 102 = some (.array 6 101) := by kernel_rfl
  have ht2 : Tryd.prog.underlying 101 = some (.array 2 4) := by kernel_rfl
  have hb : Tryd.prog.underlying 4 = some .bool := by kernel_rfl
  have c1 : Tryd.prog.cellsOf 4 = 1 := by kernel_rfl
  have c2 : Tryd.prog.cellsOf 101 = 2 := by kernel_rfl
  have c6 : Tryd.prog.cellsOf 102 = 12 := by kernel_rfl
  obtain ⟨ps, ⟨g', t', cs, fuel, p, q, hg', ht', hvar, hd, _, hps⟩, _, hfr⟩ := h
  obtain rfl := Option.some.inj (hg.symm.trans hg')
  obtain rfl := Option.some.inj (hty.symm.trans ht')
  obtain ⟨xs, m, rfl, hx, hl, hn, hall⟩ := DataW.trod_array ht hd
  simp only [Prod.mk.injEq, Rows.laid_abacus_cells_uses, DataW.agg.injEq] at hx
  obtain ⟨hx, _⟩ := hx
  rw [c6] at hl
  have hcs : cs.toList = usesList := by
    match xs, hn with
    | [x0, x1, x2, x3, x4, x5], _ =>
      simp only [List.map_cons, List.map_nil, List.cons.injEq, and_true] at hx
      obtain ⟨h0, h1, h2, h3, h4, h5⟩ := hx
      have k := fun i hi => hall i hi
      simp only [c2] at k
      have row : ∀ i (x : DataW Unit × List MemPlace) a b, i < 6 → [x0, x1, x2, x3, x4, x5][i]? = some x → .agg [.lit (.bool a), .lit (.bool b)] = x.1 → (cs.toList.drop (i * 2)).take 2 = [.bool a, .bool b] := fun i x a b hi hx he => by
        have := k i hi
        rw [hx] at this
        obtain ⟨x1, x2⟩ := x
        simp only at he
        subst he
        exact bools_of ht2 hb c1 c2 this
      have r0 := row 0 x0 _ _ (by omega) rfl h0
      have r1 := row 1 x1 _ _ (by omega) rfl h1
      have r2 := row 2 x2 _ _ (by omega) rfl h2
      have r3 := row 3 x3 _ _ (by omega) rfl h3
      have r4 := row 4 x4 _ _ (by omega) rfl h4
      have r5 := row 5 x5 _ _ (by omega) rfl h5
      generalize cs.toList = l at *
      match l, hl with
      | [a0, a1, a2, a3, a4, a5, a6, a7, a8, a9, a10, a11], _ =>
        simp at r0 r1 r2 r3 r4 r5
        simp [usesList, r0, r1, r2, r3, r4, r5]
  intro j v hv
  have hcell := World.var?_cell hg hvar j
  have hlt : j < cs.size := by
    have := (List.getElem?_eq_some_iff.1 hv).1
    rw [← hcs] at this
    simpa using this
  refine ⟨by rw [hcell, ← hv, ← hcs]; simp, ?_⟩
  have hmem : MemPlace.cell 0 j ∈ ps := by
    rw [hps]
    refine List.mem_append_left _ (List.mem_append_left _ ?_)
    simp only [MemPlace.row, List.mem_map, List.mem_range]
    exact ⟨j, hlt, by simp⟩
  obtain ⟨⟨c, t, hc⟩, _⟩ := hfr _ _ hmem
  simp [World.frozen?, hc]
end Go.Proofs.YtmihblocomnfjaaDoor.Close
