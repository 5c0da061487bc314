/- ShardsNil: nil counters, nil operations. -/
import Derived.Test.YtfdgggikjnoghaaDoorShA
import Derived.Test.YtfdgggikjnoghaaDoorObj
namespace Go.Proofs.YtfdgggikjnoghaaDoor.shnil
open Go Sy Close
theorem calls {W : World} (k w b : Int) (hU : UsesAt W) : Calls Tryd.prog 8 #[.agg #[.int .u8 k, .int .i64 w, .int .u64 b]] W (Done W) := by
  have hO := Own.start hU
  refine (Case.calls hostB (nilC k w b) nil_n (nil_1 k w b) (nil_2 k w b) (fun ν p hp => by simp [nil_o] at hp) hO.looks.met).mono ?_
  rintro e W' ⟨ν, rfl, hp⟩
  exact ⟨rfl, (hO.step (L' := usesC) (left := (nil_o k w b ν).2) hO.looks hp (.same _) st_nil (List.Sublist.refl _) far_uses).old⟩
end Go.Proofs.YtfdgggikjnoghaaDoor.shnil
