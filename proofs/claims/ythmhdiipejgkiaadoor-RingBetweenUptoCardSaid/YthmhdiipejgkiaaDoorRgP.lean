/- Rings: 'lives' of the statements as a contract. -/
import Derived.Test.YthmhdiipejgkiaaDoorRgO
set_option linter.unusedSimpArgs false
set_option linter.unusedVariables false
namespace Go.Proofs.YthmhdiipejgkiaaDoor
open Go Sy Close
set_option maxRecDepth 100000
def livesP (args : Array Value) : CP := match args.toList with
  | [] => loadsB 0 usesL <| .done 0 fun _ => { res := .bool true }
  | _ => .fail
theorem lives_ok : (⟨8, livesP⟩ : Contract).Ok Tryd.prog := con_start fun args w0 => by
  unfold livesP
  split
  · rename_i hargs
    obtain rfl := args_of hargs
    refine good_bools (good_doneR fun hl hr => ?_)
    refine calls_after (X := fun _ _ _ => False) (fn := Tryd.f8) Tryd.func8 rfl (show 0 ≤ Tryd.f8.ntmps by decide) fun a hfr => ?_
    refine Res.segV (F := []) (GF := []) (V := []) (GV := []) hostR _ livesA livesA1_n livesA1_1 livesA1_2 (Res.rows hr) hl (fun _ _ ⟨_, h, _⟩ => by cases h) no_ros rfl (by simp [livesA1_o]) (fun _ _ => rfl) (fun _ _ => rfl) hfr fun ν j a1 w1 hfr1 hr1 => ?_
    refine ⟨[], rfl, rfl, ?_⟩
    exact Res.metR (z := ({ res := .bool true } : Sy.Ends)) (ls := []) (GV := (livesA1_o ν j).2.2.vecs) (GF := (livesA1_o ν j).2.2.news) (L := []) (hr1.perm (by simp [livesA1_o, newsB]) (by simp [rowsNow])) rfl (by simp)
  · exact good_fail
def consL : List Contract := ⟨8, livesP⟩ :: consR
theorem consL_ok : ∀ c ∈ consL, c.Ok Tryd.prog := con_ok lives_ok consR_ok
/-- Words are walked into. -/
noncomputable def hostL : Host Tryd.prog := hostOf _ consL_ok
def consLW : List Contract := ⟨8, livesP⟩ :: consV
theorem consLW_ok : ∀ c ∈ consLW, c.Ok Tryd.prog := con_ok lives_ok consV_ok
noncomputable def hostLW : Host Tryd.prog := hostOf _ consLW_ok
end Go.Proofs.YthmhdiipejgkiaaDoor
