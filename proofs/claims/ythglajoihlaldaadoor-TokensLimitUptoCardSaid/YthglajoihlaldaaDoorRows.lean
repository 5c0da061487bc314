/-
  NARROWER THAN 'FOR EVERY INPUT', by the rows' own cells (each row's printed sentence says how): TokensWait: laid · TokensLimit: laid · TokensSteps: laid · TokensCalls: laid · TokensNil: laid · TokensFree: laid · TokensPlain: laid.
  DERIVED. THE GIVEN ROWS OF THIS SEAT. 7 by the template 'for every input the law returns true; each argument reads behind the call as it read before'; 0 by the template 'total and deterministic' (their statements: YthglajoihlaldaaDoorTotals.lean).
  GIVEN WITH THE SEED: the statements are not yours to turn. If you find one false, say at which input.
  Laid BY PROGRAM, IN A SANDBOX (cutbox-rows.mjs): the forced cells as the released guide's own fill.sh prints them over the translation b88c15449cd47886… (all of the seat's roots in one cut). By AI agents, Wed Nov 11 2026. No macro, syntax, notation, axiom, sorry.
-/
import Derived.Test.YthglajoihlaldaaDoorChecked
import GoSem.Claim
import GoSem.ClaimJoined
import GoSem.ClaimMapViews
import Derived.JoinedTies
import Derived.KernelRfl
namespace Go.Proofs.YthglajoihlaldaaDoor
/- THE CELL 'sum', in the pinned program and in every row, IS THE sha256 OF THE DUMP (.gsa) THAT YthglajoihlaldaaDoorProg.lean LOADS. Nothing in Lean hashes anything: it is a label: what it is worth is what the hold of that sum in a sandbox is worth. -/
noncomputable def Tryd.pinned : Pinned := { name := "ythglajoihlaldaadoor", sum := "b88c15449cd478863d0f06f592958302fd877c1f9f5d27328cac67878cb2ef9b", checked := Tryd.checked }
namespace Rows
def none {H : Type} : Left H := { results := [], args := [] }

/- WHAT THE LISTED PACKAGE-LEVEL VARIABLES READ AS WHEN THE CALL BEGINS. Each datum BY PROGRAM (the guide's laid-datum.mjs) off the statement by which the dump's own 'gosem.cut.vars' lays the variable. In a bare row this is a premise. The card (YthglajoihlaldaaDoorCards.lean) ties it to the program's text. -/
def laid_abacus_cells_uses {H : Type} : DataW H := .agg [.agg [.lit (.bool false), .lit (.bool false)], .agg [.lit (.bool false), .lit (.bool false)], .agg [.lit (.bool false), .lit (.bool true)], .agg [.lit (.bool false), .lit (.bool true)], .agg [.lit (.bool false), .lit (.bool true)], .agg [.lit (.bool true), .lit (.bool true)]]

/-- 'abacuslaw06.TokensWait': WHATEVER THE INPUT: true; the input reads as it did. -/
def tokensWaitSpec : ChangeSpec := { name := "tokensWait", fn := fun _ => fun
  | [d1, d2, d3, d4, d5] => { results := [.lit (.bool true)], args := [d1, d2, d3, d4, d5] }
  | _ => none }
def tokensWaitRow : OpenClaim := { program := "ythglajoihlaldaadoor", sum := "b88c15449cd478863d0f06f592958302fd877c1f9f5d27328cac67878cb2ef9b", func := "abacus/abacuslaw06.TokensWait", spec := "tokensWait", inPlace := ["sync/atomic.LoadUint64", "sync/atomic.SwapUint64", "sync/atomic.AddUint64", "sync/atomic.CompareAndSwapUint64"], unfollowed := true, recurses := true, named := ["abacus/cells.uses"], apart := false, laid := [("abacus/cells.uses", laid_abacus_cells_uses)] }
def TokensWaitSaid : Prop := tokensWaitRow.holds Tryd.pinned (OpenSpec.ofChange tokensWaitSpec)

/-- ITS FALSE NEIGHBOUR: 'it returns false'. Refute it at one input. -/
def tokensWaitWrong : ChangeSpec := { name := "tokensWait", fn := fun _ => fun
  | [d1, d2, d3, d4, d5] => { results := [.lit (.bool false)], args := [d1, d2, d3, d4, d5] }
  | _ => none }
def TokensWaitWrongFalsely : Prop := tokensWaitRow.holds Tryd.pinned (OpenSpec.ofChange tokensWaitWrong)

/-- 'abacuslaw06.TokensLimit': WHATEVER THE INPUT: true; the input reads as it did. -/
def tokensLimitSpec : ChangeSpec := { name := "tokensLimit", fn := fun _ => fun
  | [d1, d2, d3, d4] => { results := [.lit (.bool true)], args := [d1, d2, d3, d4] }
  | _ => none }
def tokensLimitRow : OpenClaim := { program := "ythglajoihlaldaadoor", sum := "b88c15449cd478863d0f06f592958302fd877c1f9f5d27328cac67878cb2ef9b", func := "abacus/abacuslaw06.TokensLimit", spec := "tokensLimit", inPlace := ["sync/atomic.LoadUint64", "sync/atomic.SwapUint64", "sync/atomic.AddUint64", "sync/atomic.CompareAndSwapUint64"], unfollowed := true, recurses := true, named := ["abacus/cells.uses"], apart := false, laid := [("abacus/cells.uses", laid_abacus_cells_uses)] }
def TokensLimitSaid : Prop := tokensLimitRow.holds Tryd.pinned (OpenSpec.ofChange tokensLimitSpec)

/-- ITS FALSE NEIGHBOUR: 'it returns false'. Refute it at one input. -/
def tokensLimitWrong : ChangeSpec := { name := "tokensLimit", fn := fun _ => fun
  | [d1, d2, d3, d4] => { results := [.lit (.bool false)], args := [d1, d2, d3, d4] }
  | _ => none }
def TokensLimitWrongFalsely : Prop := tokensLimitRow.holds Tryd.pinned (OpenSpec.ofChange tokensLimitWrong)

/-- 'abacuslaw06.TokensSteps': WHATEVER THE INPUT: true; the input reads as it did. -/
def tokensStepsSpec : ChangeSpec := { name := "tokensSteps", fn := fun _ => fun
  | [d1, d2, d3, d4] => { results := [.lit (.bool true)], args := [d1, d2, d3, d4] }
  | _ => none }
def tokensStepsRow : OpenClaim := { program := "ythglajoihlaldaadoor", sum := "b88c15449cd478863d0f06f592958302fd877c1f9f5d27328cac67878cb2ef9b", func := "abacus/abacuslaw06.TokensSteps", spec := "tokensSteps", inPlace := ["sync/atomic.LoadUint64", "sync/atomic.SwapUint64", "sync/atomic.AddUint64", "sync/atomic.CompareAndSwapUint64"], unfollowed := true, recurses := true, named := ["abacus/cells.uses"], apart := false, laid := [("abacus/cells.uses", laid_abacus_cells_uses)] }
def TokensStepsSaid : Prop := tokensStepsRow.holds Tryd.pinned (OpenSpec.ofChange tokensStepsSpec)

/-- ITS FALSE NEIGHBOUR: 'it returns false'. Refute it at one input. -/
def tokensStepsWrong : ChangeSpec := { name := "tokensSteps", fn := fun _ => fun
  | [d1, d2, d3, d4] => { results := [.lit (.bool false)], args := [d1, d2, d3, d4] }
  | _ => none }
def TokensStepsWrongFalsely : Prop := tokensStepsRow.holds Tryd.pinned (OpenSpec.ofChange tokensStepsWrong)

/-- 'abacuslaw06.TokensCalls': WHATEVER THE INPUT: true; the input reads as it did. -/
def tokensCallsSpec : ChangeSpec := { name := "tokensCalls", fn := fun _ => fun
  | [d1, d2, d3] => { results := [.lit (.bool true)], args := [d1, d2, d3] }
  | _ => none }
def tokensCallsRow : OpenClaim := { program := "ythglajoihlaldaadoor", sum := "b88c15449cd478863d0f06f592958302fd877c1f9f5d27328cac67878cb2ef9b", func := "abacus/abacuslaw06.TokensCalls", spec := "tokensCalls", inPlace := ["sync/atomic.LoadUint64", "sync/atomic.SwapUint64", "sync/atomic.AddUint64", "sync/atomic.CompareAndSwapUint64"], unfollowed := true, recurses := true, named := ["abacus/cells.uses"], apart := false, laid := [("abacus/cells.uses", laid_abacus_cells_uses)] }
def TokensCallsSaid : Prop := tokensCallsRow.holds Tryd.pinned (OpenSpec.ofChange tokensCallsSpec)

/-- ITS FALSE NEIGHBOUR: 'it returns false'. Refute it at one input. -/
def tokensCallsWrong : ChangeSpec := { name := "tokensCalls", fn := fun _ => fun
  | [d1, d2, d3] => { results := [.lit (.bool false)], args := [d1, d2, d3] }
  | _ => none }
def TokensCallsWrongFalsely : Prop := tokensCallsRow.holds Tryd.pinned (OpenSpec.ofChange tokensCallsWrong)

/-- 'abacuslaw06.TokensNil': WHATEVER THE INPUT: true; the input reads as it did. -/
def tokensNilSpec : ChangeSpec := { name := "tokensNil", fn := fun _ => fun
  | [d] => { results := [.lit (.bool true)], args := [d] }
  | _ => none }
def tokensNilRow : OpenClaim := { program := "ythglajoihlaldaadoor", sum := "b88c15449cd478863d0f06f592958302fd877c1f9f5d27328cac67878cb2ef9b", func := "abacus/abacuslaw06.TokensNil", spec := "tokensNil", inPlace := ["sync/atomic.LoadUint64", "sync/atomic.SwapUint64", "sync/atomic.AddUint64", "sync/atomic.CompareAndSwapUint64"], unfollowed := true, recurses := true, named := ["abacus/cells.uses"], apart := false, laid := [("abacus/cells.uses", laid_abacus_cells_uses)] }
def TokensNilSaid : Prop := tokensNilRow.holds Tryd.pinned (OpenSpec.ofChange tokensNilSpec)

/-- ITS FALSE NEIGHBOUR: 'it returns false'. Refute it at one input. -/
def tokensNilWrong : ChangeSpec := { name := "tokensNil", fn := fun _ => fun
  | [d] => { results := [.lit (.bool false)], args := [d] }
  | _ => none }
def TokensNilWrongFalsely : Prop := tokensNilRow.holds Tryd.pinned (OpenSpec.ofChange tokensNilWrong)

/-- 'abacuslaw06.TokensFree': WHATEVER THE INPUT: true; the input reads as it did. -/
def tokensFreeSpec : ChangeSpec := { name := "tokensFree", fn := fun _ => fun
  | [d1, d2, d3, d4] => { results := [.lit (.bool true)], args := [d1, d2, d3, d4] }
  | _ => none }
def tokensFreeRow : OpenClaim := { program := "ythglajoihlaldaadoor", sum := "b88c15449cd478863d0f06f592958302fd877c1f9f5d27328cac67878cb2ef9b", func := "abacus/abacuslaw06.TokensFree", spec := "tokensFree", inPlace := ["sync/atomic.LoadUint64", "sync/atomic.SwapUint64", "sync/atomic.AddUint64", "sync/atomic.CompareAndSwapUint64"], unfollowed := true, recurses := true, named := ["abacus/cells.uses"], apart := false, laid := [("abacus/cells.uses", laid_abacus_cells_uses)] }
def TokensFreeSaid : Prop := tokensFreeRow.holds Tryd.pinned (OpenSpec.ofChange tokensFreeSpec)

/-- ITS FALSE NEIGHBOUR: 'it returns false'. Refute it at one input. -/
def tokensFreeWrong : ChangeSpec := { name := "tokensFree", fn := fun _ => fun
  | [d1, d2, d3, d4] => { results := [.lit (.bool false)], args := [d1, d2, d3, d4] }
  | _ => none }
def TokensFreeWrongFalsely : Prop := tokensFreeRow.holds Tryd.pinned (OpenSpec.ofChange tokensFreeWrong)

/-- 'abacuslaw06.TokensPlain': WHATEVER THE INPUT: true; the input reads as it did. -/
def tokensPlainSpec : ChangeSpec := { name := "tokensPlain", fn := fun _ => fun
  | [d1, d2, d3, d4] => { results := [.lit (.bool true)], args := [d1, d2, d3, d4] }
  | _ => none }
def tokensPlainRow : OpenClaim := { program := "ythglajoihlaldaadoor", sum := "b88c15449cd478863d0f06f592958302fd877c1f9f5d27328cac67878cb2ef9b", func := "abacus/abacuslaw06.TokensPlain", spec := "tokensPlain", inPlace := ["sync/atomic.LoadUint64", "sync/atomic.SwapUint64", "sync/atomic.AddUint64", "sync/atomic.CompareAndSwapUint64"], unfollowed := true, recurses := true, named := ["abacus/cells.uses"], apart := false, laid := [("abacus/cells.uses", laid_abacus_cells_uses)] }
def TokensPlainSaid : Prop := tokensPlainRow.holds Tryd.pinned (OpenSpec.ofChange tokensPlainSpec)

/-- ITS FALSE NEIGHBOUR: 'it returns false'. Refute it at one input. -/
def tokensPlainWrong : ChangeSpec := { name := "tokensPlain", fn := fun _ => fun
  | [d1, d2, d3, d4] => { results := [.lit (.bool false)], args := [d1, d2, d3, d4] }
  | _ => none }
def TokensPlainWrongFalsely : Prop := tokensPlainRow.holds Tryd.pinned (OpenSpec.ofChange tokensPlainWrong)

/- THE SECOND FORM. 'bulk': how many values and letters a reading holds, each counted each time it is reached (what is shared counts as often as it is met; a slice's spare places count too). A statement '..UptoSaid' is the law's where the arguments, and the package variables that the reading takes, are together of bulk at most 1048576: NARROWER than '..Said'. Prove '..Said' where nothing that the law and all that it calls make is longer than what came in: it says more and counts as full. Else prove '..UptoSaid'. A law counts once. -/
mutual
def uptoBulk {H : Type} : DataW H → Nat
  | .lit (.string bytes) => bytes.length + 1
  | .lit _ => 1
  | .nil => 1
  | .ptr d => uptoBulk d + 1
  | .slice elems spare => uptoBulkAll elems + uptoBulkAll spare + 1
  | .agg parts => uptoBulkAll parts + 1
  | .iface _ d => uptoBulk d + 1
  | .map entries => uptoBulkEntries entries + 1
  | .held _ => 1
def uptoBulkAll {H : Type} : List (DataW H) → Nat
  | [] => 0
  | d :: r => uptoBulk d + uptoBulkAll r
def uptoBulkEntries {H : Type} : List (Lit × DataW H) → Nat
  | [] => 0
  | x :: r => uptoBulkEntry x + uptoBulkEntries r
def uptoBulkEntry {H : Type} : Lit × DataW H → Nat
  | (.string bytes, d) => bytes.length + uptoBulk d + 1
  | (_, d) => uptoBulk d + 1
 end
def uptoSmall : (H : Type) → List (DataW H) → Bool := fun _ ds => decide (uptoBulkAll ds ≤ 1048576)
def OpenSpec.upto (s : _root_.Go.ChangeSpec) : _root_.Go.OpenSpec := { _root_.Go.OpenSpec.ofChange s with cond := some uptoSmall }

/-- 'abacuslaw06.TokensWait', WHERE WHAT IT READS IS OF BULK AT MOST 1048576: true; the input reads as it did. -/
def tokensWaitUptoRow : OpenClaim := { program := "ythglajoihlaldaadoor", sum := "b88c15449cd478863d0f06f592958302fd877c1f9f5d27328cac67878cb2ef9b", func := "abacus/abacuslaw06.TokensWait", spec := "tokensWait", inPlace := ["sync/atomic.LoadUint64", "sync/atomic.SwapUint64", "sync/atomic.AddUint64", "sync/atomic.CompareAndSwapUint64"], unfollowed := true, recurses := true, named := ["abacus/cells.uses"], apart := false, laid := [("abacus/cells.uses", laid_abacus_cells_uses)], narrowed := true }
def TokensWaitUptoSaid : Prop := tokensWaitUptoRow.holds Tryd.pinned (OpenSpec.upto tokensWaitSpec)

/-- 'abacuslaw06.TokensLimit', WHERE WHAT IT READS IS OF BULK AT MOST 1048576: true; the input reads as it did. -/
def tokensLimitUptoRow : OpenClaim := { program := "ythglajoihlaldaadoor", sum := "b88c15449cd478863d0f06f592958302fd877c1f9f5d27328cac67878cb2ef9b", func := "abacus/abacuslaw06.TokensLimit", spec := "tokensLimit", inPlace := ["sync/atomic.LoadUint64", "sync/atomic.SwapUint64", "sync/atomic.AddUint64", "sync/atomic.CompareAndSwapUint64"], unfollowed := true, recurses := true, named := ["abacus/cells.uses"], apart := false, laid := [("abacus/cells.uses", laid_abacus_cells_uses)], narrowed := true }
def TokensLimitUptoSaid : Prop := tokensLimitUptoRow.holds Tryd.pinned (OpenSpec.upto tokensLimitSpec)

/-- 'abacuslaw06.TokensSteps', WHERE WHAT IT READS IS OF BULK AT MOST 1048576: true; the input reads as it did. -/
def tokensStepsUptoRow : OpenClaim := { program := "ythglajoihlaldaadoor", sum := "b88c15449cd478863d0f06f592958302fd877c1f9f5d27328cac67878cb2ef9b", func := "abacus/abacuslaw06.TokensSteps", spec := "tokensSteps", inPlace := ["sync/atomic.LoadUint64", "sync/atomic.SwapUint64", "sync/atomic.AddUint64", "sync/atomic.CompareAndSwapUint64"], unfollowed := true, recurses := true, named := ["abacus/cells.uses"], apart := false, laid := [("abacus/cells.uses", laid_abacus_cells_uses)], narrowed := true }
def TokensStepsUptoSaid : Prop := tokensStepsUptoRow.holds Tryd.pinned (OpenSpec.upto tokensStepsSpec)

/-- 'abacuslaw06.TokensCalls', WHERE WHAT IT READS IS OF BULK AT MOST 1048576: true; the input reads as it did. -/
def tokensCallsUptoRow : OpenClaim := { program := "ythglajoihlaldaadoor", sum := "b88c15449cd478863d0f06f592958302fd877c1f9f5d27328cac67878cb2ef9b", func := "abacus/abacuslaw06.TokensCalls", spec := "tokensCalls", inPlace := ["sync/atomic.LoadUint64", "sync/atomic.SwapUint64", "sync/atomic.AddUint64", "sync/atomic.CompareAndSwapUint64"], unfollowed := true, recurses := true, named := ["abacus/cells.uses"], apart := false, laid := [("abacus/cells.uses", laid_abacus_cells_uses)], narrowed := true }
def TokensCallsUptoSaid : Prop := tokensCallsUptoRow.holds Tryd.pinned (OpenSpec.upto tokensCallsSpec)

/-- 'abacuslaw06.TokensNil', WHERE WHAT IT READS IS OF BULK AT MOST 1048576: true; the input reads as it did. -/
def tokensNilUptoRow : OpenClaim := { program := "ythglajoihlaldaadoor", sum := "b88c15449cd478863d0f06f592958302fd877c1f9f5d27328cac67878cb2ef9b", func := "abacus/abacuslaw06.TokensNil", spec := "tokensNil", inPlace := ["sync/atomic.LoadUint64", "sync/atomic.SwapUint64", "sync/atomic.AddUint64", "sync/atomic.CompareAndSwapUint64"], unfollowed := true, recurses := true, named := ["abacus/cells.uses"], apart := false, laid := [("abacus/cells.uses", laid_abacus_cells_uses)], narrowed := true }
def TokensNilUptoSaid : Prop := tokensNilUptoRow.holds Tryd.pinned (OpenSpec.upto tokensNilSpec)

/-- 'abacuslaw06.TokensFree', WHERE WHAT IT READS IS OF BULK AT MOST 1048576: true; the input reads as it did. -/
def tokensFreeUptoRow : OpenClaim := { program := "ythglajoihlaldaadoor", sum := "b88c15449cd478863d0f06f592958302fd877c1f9f5d27328cac67878cb2ef9b", func := "abacus/abacuslaw06.TokensFree", spec := "tokensFree", inPlace := ["sync/atomic.LoadUint64", "sync/atomic.SwapUint64", "sync/atomic.AddUint64", "sync/atomic.CompareAndSwapUint64"], unfollowed := true, recurses := true, named := ["abacus/cells.uses"], apart := false, laid := [("abacus/cells.uses", laid_abacus_cells_uses)], narrowed := true }
def TokensFreeUptoSaid : Prop := tokensFreeUptoRow.holds Tryd.pinned (OpenSpec.upto tokensFreeSpec)

/-- 'abacuslaw06.TokensPlain', WHERE WHAT IT READS IS OF BULK AT MOST 1048576: true; the input reads as it did. -/
def tokensPlainUptoRow : OpenClaim := { program := "ythglajoihlaldaadoor", sum := "b88c15449cd478863d0f06f592958302fd877c1f9f5d27328cac67878cb2ef9b", func := "abacus/abacuslaw06.TokensPlain", spec := "tokensPlain", inPlace := ["sync/atomic.LoadUint64", "sync/atomic.SwapUint64", "sync/atomic.AddUint64", "sync/atomic.CompareAndSwapUint64"], unfollowed := true, recurses := true, named := ["abacus/cells.uses"], apart := false, laid := [("abacus/cells.uses", laid_abacus_cells_uses)], narrowed := true }
def TokensPlainUptoSaid : Prop := tokensPlainUptoRow.holds Tryd.pinned (OpenSpec.upto tokensPlainSpec)

end Rows
end Go.Proofs.YthglajoihlaldaaDoor
