/-
  NARROWER THAN 'FOR EVERY INPUT', by the rows' own cells (each row's printed sentence says how): SnapSteps: laid · SnapTrue: laid · SnapQuiet: laid · SnapLost: laid · SnapOwn: laid · SnapCalls: laid · SnapNil: laid.
  DERIVED. THE GIVEN ROWS OF THIS SEAT. 7 by the template 'for every input the law returns true; each argument reads behind the call as it read before'; 0 by the template 'total and deterministic' (their statements: YtmihblocomnfjaaDoorTotals.lean).
  GIVEN WITH THE SEED: the statements are not yours to turn. If you find one false, say at which input.
  Laid BY PROGRAM, IN A SANDBOX (cutbox-rows.mjs): the forced cells as the released guide's own fill.sh prints them over the translation 275061582808b393… (all of the seat's roots in one cut). By AI agents, Wed Nov 11 2026. No macro, syntax, notation, axiom, sorry.
-/
import Derived.Test.YtmihblocomnfjaaDoorChecked
import GoSem.Claim
import GoSem.ClaimJoined
import GoSem.ClaimMapViews
import Derived.JoinedTies
import Derived.KernelRfl
namespace Go.Proofs.YtmihblocomnfjaaDoor
/- THE CELL 'sum', in the pinned program and in every row, IS THE sha256 OF THE DUMP (.gsa) THAT YtmihblocomnfjaaDoorProg.lean LOADS. Nothing in Lean hashes anything: it is a label: what it is worth is what the hold of that sum in a sandbox is worth. -/
noncomputable def Tryd.pinned : Pinned := { name := "ytmihblocomnfjaadoor", sum := "275061582808b39366aeedffe06e046e7456cdb12924a6650986480ba04018a1", checked := Tryd.checked }
namespace Rows
def none {H : Type} : Left H := { results := [], args := [] }

/- WHAT THE LISTED PACKAGE-LEVEL VARIABLES READ AS WHEN THE CALL BEGINS. Each datum BY PROGRAM (the guide's laid-datum.mjs) off the statement by which the dump's own 'gosem.cut.vars' lays the variable. In a bare row this is a premise. The card (YtmihblocomnfjaaDoorCards.lean) ties it to the program's text. -/
def laid_abacus_cells_uses {H : Type} : DataW H := .agg [.agg [.lit (.bool false), .lit (.bool false)], .agg [.lit (.bool false), .lit (.bool false)], .agg [.lit (.bool false), .lit (.bool true)], .agg [.lit (.bool false), .lit (.bool true)], .agg [.lit (.bool false), .lit (.bool true)], .agg [.lit (.bool true), .lit (.bool true)]]

/-- 'abacuslaw14.SnapSteps': WHATEVER THE INPUT: true; the input reads as it did. -/
def snapStepsSpec : ChangeSpec := { name := "snapSteps", fn := fun _ => fun
  | [d1, d2, d3] => { results := [.lit (.bool true)], args := [d1, d2, d3] }
  | _ => none }
def snapStepsRow : OpenClaim := { program := "ytmihblocomnfjaadoor", sum := "275061582808b39366aeedffe06e046e7456cdb12924a6650986480ba04018a1", func := "abacus/abacuslaw14.SnapSteps", spec := "snapSteps", inPlace := ["sync/atomic.LoadUint64", "sync/atomic.SwapUint64", "sync/atomic.AddUint64", "sync/atomic.CompareAndSwapUint64"], named := ["abacus/cells.uses"], apart := false, laid := [("abacus/cells.uses", laid_abacus_cells_uses)] }
def SnapStepsSaid : Prop := snapStepsRow.holds Tryd.pinned (OpenSpec.ofChange snapStepsSpec)

/-- ITS FALSE NEIGHBOUR: 'it returns false'. Refute it at one input. -/
def snapStepsWrong : ChangeSpec := { name := "snapSteps", fn := fun _ => fun
  | [d1, d2, d3] => { results := [.lit (.bool false)], args := [d1, d2, d3] }
  | _ => none }
def SnapStepsWrongFalsely : Prop := snapStepsRow.holds Tryd.pinned (OpenSpec.ofChange snapStepsWrong)

/-- 'abacuslaw14.SnapTrue': WHATEVER THE INPUT: true; the input reads as it did. -/
def snapTrueSpec : ChangeSpec := { name := "snapTrue", fn := fun _ => fun
  | [d1, d2, d3] => { results := [.lit (.bool true)], args := [d1, d2, d3] }
  | _ => none }
def snapTrueRow : OpenClaim := { program := "ytmihblocomnfjaadoor", sum := "275061582808b39366aeedffe06e046e7456cdb12924a6650986480ba04018a1", func := "abacus/abacuslaw14.SnapTrue", spec := "snapTrue", inPlace := ["sync/atomic.LoadUint64", "sync/atomic.SwapUint64", "sync/atomic.AddUint64", "sync/atomic.CompareAndSwapUint64"], named := ["abacus/cells.uses"], apart := false, laid := [("abacus/cells.uses", laid_abacus_cells_uses)] }
def SnapTrueSaid : Prop := snapTrueRow.holds Tryd.pinned (OpenSpec.ofChange snapTrueSpec)

/-- ITS FALSE NEIGHBOUR: 'it returns false'. Refute it at one input. -/
def snapTrueWrong : ChangeSpec := { name := "snapTrue", fn := fun _ => fun
  | [d1, d2, d3] => { results := [.lit (.bool false)], args := [d1, d2, d3] }
  | _ => none }
def SnapTrueWrongFalsely : Prop := snapTrueRow.holds Tryd.pinned (OpenSpec.ofChange snapTrueWrong)

/-- 'abacuslaw14.SnapQuiet': WHATEVER THE INPUT: true; the input reads as it did. -/
def snapQuietSpec : ChangeSpec := { name := "snapQuiet", fn := fun _ => fun
  | [d1, d2, d3] => { results := [.lit (.bool true)], args := [d1, d2, d3] }
  | _ => none }
def snapQuietRow : OpenClaim := { program := "ytmihblocomnfjaadoor", sum := "275061582808b39366aeedffe06e046e7456cdb12924a6650986480ba04018a1", func := "abacus/abacuslaw14.SnapQuiet", spec := "snapQuiet", inPlace := ["sync/atomic.LoadUint64", "sync/atomic.SwapUint64", "sync/atomic.AddUint64", "sync/atomic.CompareAndSwapUint64"], named := ["abacus/cells.uses"], apart := false, laid := [("abacus/cells.uses", laid_abacus_cells_uses)] }
def SnapQuietSaid : Prop := snapQuietRow.holds Tryd.pinned (OpenSpec.ofChange snapQuietSpec)

/-- ITS FALSE NEIGHBOUR: 'it returns false'. Refute it at one input. -/
def snapQuietWrong : ChangeSpec := { name := "snapQuiet", fn := fun _ => fun
  | [d1, d2, d3] => { results := [.lit (.bool false)], args := [d1, d2, d3] }
  | _ => none }
def SnapQuietWrongFalsely : Prop := snapQuietRow.holds Tryd.pinned (OpenSpec.ofChange snapQuietWrong)

/-- 'abacuslaw14.SnapLost': WHATEVER THE INPUT: true; the input reads as it did. -/
def snapLostSpec : ChangeSpec := { name := "snapLost", fn := fun _ => fun
  | [d1, d2, d3] => { results := [.lit (.bool true)], args := [d1, d2, d3] }
  | _ => none }
def snapLostRow : OpenClaim := { program := "ytmihblocomnfjaadoor", sum := "275061582808b39366aeedffe06e046e7456cdb12924a6650986480ba04018a1", func := "abacus/abacuslaw14.SnapLost", spec := "snapLost", inPlace := ["sync/atomic.LoadUint64", "sync/atomic.SwapUint64", "sync/atomic.AddUint64", "sync/atomic.CompareAndSwapUint64"], named := ["abacus/cells.uses"], apart := false, laid := [("abacus/cells.uses", laid_abacus_cells_uses)] }
def SnapLostSaid : Prop := snapLostRow.holds Tryd.pinned (OpenSpec.ofChange snapLostSpec)

/-- ITS FALSE NEIGHBOUR: 'it returns false'. Refute it at one input. -/
def snapLostWrong : ChangeSpec := { name := "snapLost", fn := fun _ => fun
  | [d1, d2, d3] => { results := [.lit (.bool false)], args := [d1, d2, d3] }
  | _ => none }
def SnapLostWrongFalsely : Prop := snapLostRow.holds Tryd.pinned (OpenSpec.ofChange snapLostWrong)

/-- 'abacuslaw14.SnapOwn': WHATEVER THE INPUT: true; the input reads as it did. -/
def snapOwnSpec : ChangeSpec := { name := "snapOwn", fn := fun _ => fun
  | [d1, d2] => { results := [.lit (.bool true)], args := [d1, d2] }
  | _ => none }
def snapOwnRow : OpenClaim := { program := "ytmihblocomnfjaadoor", sum := "275061582808b39366aeedffe06e046e7456cdb12924a6650986480ba04018a1", func := "abacus/abacuslaw14.SnapOwn", spec := "snapOwn", inPlace := ["sync/atomic.LoadUint64", "sync/atomic.SwapUint64", "sync/atomic.AddUint64", "sync/atomic.CompareAndSwapUint64"], named := ["abacus/cells.uses"], apart := false, laid := [("abacus/cells.uses", laid_abacus_cells_uses)] }
def SnapOwnSaid : Prop := snapOwnRow.holds Tryd.pinned (OpenSpec.ofChange snapOwnSpec)

/-- ITS FALSE NEIGHBOUR: 'it returns false'. Refute it at one input. -/
def snapOwnWrong : ChangeSpec := { name := "snapOwn", fn := fun _ => fun
  | [d1, d2] => { results := [.lit (.bool false)], args := [d1, d2] }
  | _ => none }
def SnapOwnWrongFalsely : Prop := snapOwnRow.holds Tryd.pinned (OpenSpec.ofChange snapOwnWrong)

/-- 'abacuslaw14.SnapCalls': WHATEVER THE INPUT: true; the input reads as it did. -/
def snapCallsSpec : ChangeSpec := { name := "snapCalls", fn := fun _ => fun
  | [d1, d2] => { results := [.lit (.bool true)], args := [d1, d2] }
  | _ => none }
def snapCallsRow : OpenClaim := { program := "ytmihblocomnfjaadoor", sum := "275061582808b39366aeedffe06e046e7456cdb12924a6650986480ba04018a1", func := "abacus/abacuslaw14.SnapCalls", spec := "snapCalls", inPlace := ["sync/atomic.LoadUint64", "sync/atomic.SwapUint64", "sync/atomic.AddUint64", "sync/atomic.CompareAndSwapUint64"], named := ["abacus/cells.uses"], apart := false, laid := [("abacus/cells.uses", laid_abacus_cells_uses)] }
def SnapCallsSaid : Prop := snapCallsRow.holds Tryd.pinned (OpenSpec.ofChange snapCallsSpec)

/-- ITS FALSE NEIGHBOUR: 'it returns false'. Refute it at one input. -/
def snapCallsWrong : ChangeSpec := { name := "snapCalls", fn := fun _ => fun
  | [d1, d2] => { results := [.lit (.bool false)], args := [d1, d2] }
  | _ => none }
def SnapCallsWrongFalsely : Prop := snapCallsRow.holds Tryd.pinned (OpenSpec.ofChange snapCallsWrong)

/-- 'abacuslaw14.SnapNil': WHATEVER THE INPUT: true; the input reads as it did. -/
def snapNilSpec : ChangeSpec := { name := "snapNil", fn := fun _ => fun
  | [d] => { results := [.lit (.bool true)], args := [d] }
  | _ => none }
def snapNilRow : OpenClaim := { program := "ytmihblocomnfjaadoor", sum := "275061582808b39366aeedffe06e046e7456cdb12924a6650986480ba04018a1", func := "abacus/abacuslaw14.SnapNil", spec := "snapNil", inPlace := ["sync/atomic.LoadUint64", "sync/atomic.SwapUint64", "sync/atomic.AddUint64", "sync/atomic.CompareAndSwapUint64"], named := ["abacus/cells.uses"], apart := false, laid := [("abacus/cells.uses", laid_abacus_cells_uses)] }
def SnapNilSaid : Prop := snapNilRow.holds Tryd.pinned (OpenSpec.ofChange snapNilSpec)

/-- ITS FALSE NEIGHBOUR: 'it returns false'. Refute it at one input. -/
def snapNilWrong : ChangeSpec := { name := "snapNil", fn := fun _ => fun
  | [d] => { results := [.lit (.bool false)], args := [d] }
  | _ => none }
def SnapNilWrongFalsely : Prop := snapNilRow.holds Tryd.pinned (OpenSpec.ofChange snapNilWrong)

/- THE SECOND FORM. 'bulk': how many values and letters a reading holds, each counted each time it is reached (what is shared counts as often as it is met; a slice's spare places count too). A statement '..UptoSaid' is the law's where the arguments, and the package variables that the reading takes, are together of bulk at most 1048576: NARROWER than '..Said'. Prove '..Said' where nothing that the law and all that it calls make is longer than what came in: it says more and counts as full. Else prove '..UptoSaid'. A law counts once. -/
mutual
def uptoBulk {H : Type} : DataW H → Nat
  | .lit (.string bytes) => bytes.length + 1
  | .lit _ => 1
  | .nil => 1
  | .ptr d => uptoBulk d + 1
  | .slice elems spare => uptoBulkAll elems + uptoBulkAll spare + 1
  | .agg parts => uptoBulkAll parts + 1
  | .iface _ d => uptoBulk d + 1
  | .map entries => uptoBulkEntries entries + 1
  | .held _ => 1
def uptoBulkAll {H : Type} : List (DataW H) → Nat
  | [] => 0
  | d :: r => uptoBulk d + uptoBulkAll r
def uptoBulkEntries {H : Type} : List (Lit × DataW H) → Nat
  | [] => 0
  | x :: r => uptoBulkEntry x + uptoBulkEntries r
def uptoBulkEntry {H : Type} : Lit × DataW H → Nat
  | (.string bytes, d) => bytes.length + uptoBulk d + 1
  | (_, d) => uptoBulk d + 1
 end
def uptoSmall : (H : Type) → List (DataW H) → Bool := fun _ ds => decide (uptoBulkAll ds ≤ 1048576)
def OpenSpec.upto (s : _root_.Go.ChangeSpec) : _root_.Go.OpenSpec := { _root_.Go.OpenSpec.ofChange s with cond := some uptoSmall }

/-- 'abacuslaw14.SnapSteps', WHERE WHAT IT READS IS OF BULK AT MOST 1048576: true; the input reads as it did. -/
def snapStepsUptoRow : OpenClaim := { program := "ytmihblocomnfjaadoor", sum := "275061582808b39366aeedffe06e046e7456cdb12924a6650986480ba04018a1", func := "abacus/abacuslaw14.SnapSteps", spec := "snapSteps", inPlace := ["sync/atomic.LoadUint64", "sync/atomic.SwapUint64", "sync/atomic.AddUint64", "sync/atomic.CompareAndSwapUint64"], named := ["abacus/cells.uses"], apart := false, laid := [("abacus/cells.uses", laid_abacus_cells_uses)], narrowed := true }
def SnapStepsUptoSaid : Prop := snapStepsUptoRow.holds Tryd.pinned (OpenSpec.upto snapStepsSpec)

/-- 'abacuslaw14.SnapTrue', WHERE WHAT IT READS IS OF BULK AT MOST 1048576: true; the input reads as it did. -/
def snapTrueUptoRow : OpenClaim := { program := "ytmihblocomnfjaadoor", sum := "275061582808b39366aeedffe06e046e7456cdb12924a6650986480ba04018a1", func := "abacus/abacuslaw14.SnapTrue", spec := "snapTrue", inPlace := ["sync/atomic.LoadUint64", "sync/atomic.SwapUint64", "sync/atomic.AddUint64", "sync/atomic.CompareAndSwapUint64"], named := ["abacus/cells.uses"], apart := false, laid := [("abacus/cells.uses", laid_abacus_cells_uses)], narrowed := true }
def SnapTrueUptoSaid : Prop := snapTrueUptoRow.holds Tryd.pinned (OpenSpec.upto snapTrueSpec)

/-- 'abacuslaw14.SnapQuiet', WHERE WHAT IT READS IS OF BULK AT MOST 1048576: true; the input reads as it did. -/
def snapQuietUptoRow : OpenClaim := { program := "ytmihblocomnfjaadoor", sum := "275061582808b39366aeedffe06e046e7456cdb12924a6650986480ba04018a1", func := "abacus/abacuslaw14.SnapQuiet", spec := "snapQuiet", inPlace := ["sync/atomic.LoadUint64", "sync/atomic.SwapUint64", "sync/atomic.AddUint64", "sync/atomic.CompareAndSwapUint64"], named := ["abacus/cells.uses"], apart := false, laid := [("abacus/cells.uses", laid_abacus_cells_uses)], narrowed := true }
def SnapQuietUptoSaid : Prop := snapQuietUptoRow.holds Tryd.pinned (OpenSpec.upto snapQuietSpec)

/-- 'abacuslaw14.SnapLost', WHERE WHAT IT READS IS OF BULK AT MOST 1048576: true; the input reads as it did. -/
def snapLostUptoRow : OpenClaim := { program := "ytmihblocomnfjaadoor", sum := "275061582808b39366aeedffe06e046e7456cdb12924a6650986480ba04018a1", func := "abacus/abacuslaw14.SnapLost", spec := "snapLost", inPlace := ["sync/atomic.LoadUint64", "sync/atomic.SwapUint64", "sync/atomic.AddUint64", "sync/atomic.CompareAndSwapUint64"], named := ["abacus/cells.uses"], apart := false, laid := [("abacus/cells.uses", laid_abacus_cells_uses)], narrowed := true }
def SnapLostUptoSaid : Prop := snapLostUptoRow.holds Tryd.pinned (OpenSpec.upto snapLostSpec)

/-- 'abacuslaw14.SnapOwn', WHERE WHAT IT READS IS OF BULK AT MOST 1048576: true; the input reads as it did. -/
def snapOwnUptoRow : OpenClaim := { program := "ytmihblocomnfjaadoor", sum := "275061582808b39366aeedffe06e046e7456cdb12924a6650986480ba04018a1", func := "abacus/abacuslaw14.SnapOwn", spec := "snapOwn", inPlace := ["sync/atomic.LoadUint64", "sync/atomic.SwapUint64", "sync/atomic.AddUint64", "sync/atomic.CompareAndSwapUint64"], named := ["abacus/cells.uses"], apart := false, laid := [("abacus/cells.uses", laid_abacus_cells_uses)], narrowed := true }
def SnapOwnUptoSaid : Prop := snapOwnUptoRow.holds Tryd.pinned (OpenSpec.upto snapOwnSpec)

/-- 'abacuslaw14.SnapCalls', WHERE WHAT IT READS IS OF BULK AT MOST 1048576: true; the input reads as it did. -/
def snapCallsUptoRow : OpenClaim := { program := "ytmihblocomnfjaadoor", sum := "275061582808b39366aeedffe06e046e7456cdb12924a6650986480ba04018a1", func := "abacus/abacuslaw14.SnapCalls", spec := "snapCalls", inPlace := ["sync/atomic.LoadUint64", "sync/atomic.SwapUint64", "sync/atomic.AddUint64", "sync/atomic.CompareAndSwapUint64"], named := ["abacus/cells.uses"], apart := false, laid := [("abacus/cells.uses", laid_abacus_cells_uses)], narrowed := true }
def SnapCallsUptoSaid : Prop := snapCallsUptoRow.holds Tryd.pinned (OpenSpec.upto snapCallsSpec)

/-- 'abacuslaw14.SnapNil', WHERE WHAT IT READS IS OF BULK AT MOST 1048576: true; the input reads as it did. -/
def snapNilUptoRow : OpenClaim := { program := "ytmihblocomnfjaadoor", sum := "275061582808b39366aeedffe06e046e7456cdb12924a6650986480ba04018a1", func := "abacus/abacuslaw14.SnapNil", spec := "snapNil", inPlace := ["sync/atomic.LoadUint64", "sync/atomic.SwapUint64", "sync/atomic.AddUint64", "sync/atomic.CompareAndSwapUint64"], named := ["abacus/cells.uses"], apart := false, laid := [("abacus/cells.uses", laid_abacus_cells_uses)], narrowed := true }
def SnapNilUptoSaid : Prop := snapNilUptoRow.holds Tryd.pinned (OpenSpec.upto snapNilSpec)

end Rows
end Go.Proofs.YtmihblocomnfjaaDoor
