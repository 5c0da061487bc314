/- Operations of sharded counters that were handed in. -/
import Derived.Test.YtfdgggikjnoghaaDoorShL
import Derived.Test.YtfdgggikjnoghaaDoorResLaw
namespace Go.Proofs.YtfdgggikjnoghaaDoor.shop
open Go Sy Close
set_option maxRecDepth 100000
structure Op where
  k : Int
  w : Int
  b : Int
def Op.row (x : Op) : List Value := [.int .u8 x.k, .int .i64 x.w, .int .u64 x.b]
theorem op_rows {H : Type} {enc : TypeId × Value → H} {W : World} : ∀ n cs (x : DataW H × List MemPlace), cs.length = 3 → DataW.trod enc Tryd.prog W 0 (fun _ => true) true n 40 cs = some x → ∃ y : Op, cs = y.row := by
  intro n cs x hl h
  obtain ⟨k, h0⟩ := int_cell h 0 0 .u8 (by kernel_rfl)
  obtain ⟨a, h1⟩ := int_cell h 1 1 .i64 (by kernel_rfl)
  obtain ⟨b, h2⟩ := int_cell h 2 2 .u64 (by kernel_rfl)
  match cs, hl with
  | [c0, c1, c2], _ =>
    simp only [List.getElem?_cons_zero, List.getElem?_cons_succ, Option.some.injEq] at h0 h1 h2
    exact ⟨⟨k, a, b⟩, by rw [h0, h1, h2]; rfl⟩
end Go.Proofs.YtfdgggikjnoghaaDoor.shop
