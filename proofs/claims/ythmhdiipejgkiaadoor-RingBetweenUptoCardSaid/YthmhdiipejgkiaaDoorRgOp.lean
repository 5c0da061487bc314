/- Operations of rings that were handed in, with the numbers' ranges. -/
import Derived.Test.YthmhdiipejgkiaaDoorRgP
set_option linter.unusedSimpArgs false
set_option linter.unusedVariables false
namespace Go.Proofs.YthmhdiipejgkiaaDoor.rgop
open Go Sy Close
set_option maxRecDepth 100000
section
variable {H : Type} {enc : TypeId × Value → H} {P : Program} {w : World}
theorem field_int {t : TypeId} {fs : Array Field} {n : Nat} {cs : List Value} {x : DataW H × List MemPlace} (ht : P.underlying t = some (.struct fs)) (h : DataW.trod enc P w 0 (fun _ => true) true n t cs = some x) {i : Nat} {f : Field} (hf : fs[i]? = some f) {k : IntKind} (hu : P.underlying f.type = some (.int k)) (hc : P.cellsOf f.type = 1) :
    ∃ z, cs[f.offset]? = some (.int k z) ∧ (Lit.int k z).wf = true := by
  obtain ⟨m, y, hy⟩ := field_cell ht h hf
  obtain ⟨z, hz, _, hw⟩ := DataW.trod_int hu hy
  rw [hc] at hz
  refine ⟨z, ?_, hw⟩
  have := congrArg (fun l => l[0]?) hz
  simpa [List.getElem?_take, List.getElem?_drop] using this
theorem int_cell {t : TypeId} {n : Nat} {cs : List Value} {x : DataW H × List MemPlace} (h : DataW.trod enc P w 0 (fun _ => true) true n t cs = some x) (i off : Nat) (k : IntKind) (hB : intField P t i off k = true) : ∃ z, cs[off]? = some (.int k z) ∧ (Lit.int k z).wf = true := by
  unfold intField at hB
  split at hB
  · rename_i fs ht
    split at hB
    · rename_i f hf
      split at hB
      · rename_i k' hu
        simp only [Bool.and_eq_true, decide_eq_true_eq] at hB
        obtain ⟨⟨rfl, rfl⟩, hc⟩ := hB
        exact field_int ht h hf hu hc
      · cases hB
    · cases hB
  · cases hB
end
structure Op where
  k : Int
  t : Int
  n : Int
  ht : t < 9223372036854775808
  hn : 0 ≤ n
def Op.row (x : Op) : List Value := [.int .u8 x.k, .int .i64 x.t, .int .u64 x.n]
theorem wf_t {z : Int} (h : (Lit.int .i64 z).wf = true) : z < 9223372036854775808 := by
  simp [Lit.wf, IntKind.has, IntKind.max, IntKind.min, IntKind.signed, IntKind.bits] at h
  omega
theorem wf_n {z : Int} (h : (Lit.int .u64 z).wf = true) : 0 ≤ z := by
  simp [Lit.wf, IntKind.has, IntKind.max, IntKind.min, IntKind.signed, IntKind.bits] at h
  omega
theorem op_rows {H : Type} {enc : TypeId × Value → H} {W : World} : ∀ n cs (x : DataW H × List MemPlace), cs.length = 3 → DataW.trod enc Tryd.prog W 0 (fun _ => true) true n 36 cs = some x → ∃ y : Op, cs = y.row := by
  intro n cs x hl h
  obtain ⟨k, h0, _⟩ := int_cell h 0 0 .u8 (by kernel_rfl)
  obtain ⟨a, h1, w1⟩ := int_cell h 1 1 .i64 (by kernel_rfl)
  obtain ⟨b, h2, w2⟩ := int_cell h 2 2 .u64 (by kernel_rfl)
  match cs, hl with
  | [c0, c1, c2], _ =>
    simp only [List.getElem?_cons_zero, List.getElem?_cons_succ, Option.some.injEq] at h0 h1 h2
    exact ⟨⟨k, a, b, wf_t w1, wf_n w2⟩, by rw [h0, h1, h2]; rfl⟩
end Go.Proofs.YthmhdiipejgkiaaDoor.rgop
