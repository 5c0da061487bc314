/- SnapNil: nil registers, a nil operation. -/
import Derived.Test.YtmihblocomnfjaaDoorSnNB
set_option linter.unusedSimpArgs false
set_option linter.unusedVariables false
namespace Go.Proofs.YtmihblocomnfjaaDoor.snnil
open Go Sy Close
set_option maxRecDepth 100000
theorem body : Tryd.f9.body = some (codeOf Tryd.f9) := by kernel_rfl
theorem ntmps : 1 ≤ Tryd.f9.ntmps := by decide +kernel
theorem calls {W : World} (k r v tr : Int) (hU : UsesAt W) : Calls Tryd.prog 9 #[.agg #[.int .u8 k, .int .i64 r, .int .u32 v, .int .i64 tr]] W (Done W) := by
  have hlu := looksUses hU
  refine calls_after (X := fun _ _ _ => False) Tryd.func9 body ntmps fun a1 ha => ?_
  refine Res.segV (F := []) (GF := []) (V := []) (GV := []) hostN _ (snnA k r v tr) snnA1_n (snnA1_1 k r v tr) (snnA1_2 k r v tr) (Res.start) (hlu) no_old no_ros rfl ?_ (fun _ _ => rfl) (fun _ _ => rfl) ha fun ν j a2 w2 hfr2 hr2 => ?_
  · simp [snnA1_o]
  · exact ⟨rfl, res_old hr2⟩
end Go.Proofs.YtmihblocomnfjaaDoor.snnil
