/- Operations on registers that were handed in. -/
import Derived.Test.YtmihblocomnfjaaDoorSnH
set_option linter.unusedSimpArgs false
set_option linter.unusedVariables false
namespace Go.Proofs.YtmihblocomnfjaaDoor.snop
open Go Sy Close
set_option maxRecDepth 100000
structure Op where
  k : Int
  r : Int
  v : Int
  t : Int
def Op.row (x : Op) : List Value := [.int .u8 x.k, .int .i64 x.r, .int .u32 x.v, .int .i64 x.t]
theorem op_rows {H : Type} {enc : TypeId × Value → H} {W : World} : ∀ n cs (x : DataW H × List MemPlace), cs.length = 4 → DataW.trod enc Tryd.prog W 0 (fun _ => true) true n 37 cs = some x → ∃ y : Op, cs = y.row := by
  intro n cs x hl h
  obtain ⟨k, h0⟩ := int_cell h 0 0 .u8 (by kernel_rfl)
  obtain ⟨a, h1⟩ := int_cell h 1 1 .i64 (by kernel_rfl)
  obtain ⟨b, h2⟩ := int_cell h 2 2 .u32 (by kernel_rfl)
  obtain ⟨c, h3⟩ := int_cell h 3 3 .i64 (by kernel_rfl)
  match cs, hl with
  | [c0, c1, c2, c3], _ =>
    simp only [List.getElem?_cons_zero, List.getElem?_cons_succ, Option.some.injEq] at h0 h1 h2 h3
    exact ⟨⟨k, a, b, c⟩, by rw [h0, h1, h2, h3]; rfl⟩
end Go.Proofs.YtmihblocomnfjaaDoor.snop
