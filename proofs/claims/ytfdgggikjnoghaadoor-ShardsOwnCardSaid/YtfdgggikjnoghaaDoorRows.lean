/-
  NARROWER THAN 'FOR EVERY INPUT', by the rows' own cells (each row's printed sentence says how): ShardsStill: laid · ShardsBetween: laid · ShardsSteps: laid · ShardsOwn: laid · ShardsCalls: laid · ShardsNil: laid · ShardsPlain: laid.
  DERIVED. THE GIVEN ROWS OF THIS SEAT. 7 by the template 'for every input the law returns true; each argument reads behind the call as it read before'; 0 by the template 'total and deterministic' (their statements: YtfdgggikjnoghaaDoorTotals.lean).
  GIVEN WITH THE SEED: the statements are not yours to turn. If you find one false, say at which input.
  Laid BY PROGRAM, IN A SANDBOX (cutbox-rows.mjs): the forced cells as the released guide's own fill.sh prints them over the translation e8296df306a0f212… (all of the seat's roots in one cut). By AI agents, Wed Nov 11 2026. No macro, syntax, notation, axiom, sorry.
-/
import Derived.Test.YtfdgggikjnoghaaDoorChecked
import GoSem.Claim
import GoSem.ClaimJoined
import GoSem.ClaimMapViews
import Derived.JoinedTies
import Derived.KernelRfl
namespace Go.Proofs.YtfdgggikjnoghaaDoor
/- THE CELL 'sum', in the pinned program and in every row, IS THE sha256 OF THE DUMP (.gsa) THAT YtfdgggikjnoghaaDoorProg.lean LOADS. Nothing in Lean hashes anything: it is a label: what it is worth is what the hold of that sum in a sandbox is worth. -/
noncomputable def Tryd.pinned : Pinned := { name := "ytfdgggikjnoghaadoor", sum := "e8296df306a0f2128dd475c3aefadfbd112e2f7dc99ed013b5880ceaa999bd90", checked := Tryd.checked }
namespace Rows
def none {H : Type} : Left H := { results := [], args := [] }

/- WHAT THE LISTED PACKAGE-LEVEL VARIABLES READ AS WHEN THE CALL BEGINS. Each datum BY PROGRAM (the guide's laid-datum.mjs) off the statement by which the dump's own 'gosem.cut.vars' lays the variable. In a bare row this is a premise. The card (YtfdgggikjnoghaaDoorCards.lean) ties it to the program's text. -/
def laid_abacus_cells_uses {H : Type} : DataW H := .agg [.agg [.lit (.bool false), .lit (.bool false)], .agg [.lit (.bool false), .lit (.bool false)], .agg [.lit (.bool false), .lit (.bool true)], .agg [.lit (.bool false), .lit (.bool true)], .agg [.lit (.bool false), .lit (.bool true)], .agg [.lit (.bool true), .lit (.bool true)]]

/-- 'abacuslaw04.ShardsStill': WHATEVER THE INPUT: true; the input reads as it did. -/
def shardsStillSpec : ChangeSpec := { name := "shardsStill", fn := fun _ => fun
  | [d1, d2, d3] => { results := [.lit (.bool true)], args := [d1, d2, d3] }
  | _ => none }
def shardsStillRow : OpenClaim := { program := "ytfdgggikjnoghaadoor", sum := "e8296df306a0f2128dd475c3aefadfbd112e2f7dc99ed013b5880ceaa999bd90", func := "abacus/abacuslaw04.ShardsStill", spec := "shardsStill", inPlace := ["sync/atomic.LoadUint64", "sync/atomic.SwapUint64", "sync/atomic.AddUint64", "sync/atomic.CompareAndSwapUint64"], unfollowed := true, recurses := true, named := ["abacus/cells.uses"], apart := false, laid := [("abacus/cells.uses", laid_abacus_cells_uses)] }
def ShardsStillSaid : Prop := shardsStillRow.holds Tryd.pinned (OpenSpec.ofChange shardsStillSpec)

/-- ITS FALSE NEIGHBOUR: 'it returns false'. Refute it at one input. -/
def shardsStillWrong : ChangeSpec := { name := "shardsStill", fn := fun _ => fun
  | [d1, d2, d3] => { results := [.lit (.bool false)], args := [d1, d2, d3] }
  | _ => none }
def ShardsStillWrongFalsely : Prop := shardsStillRow.holds Tryd.pinned (OpenSpec.ofChange shardsStillWrong)

/-- 'abacuslaw04.ShardsBetween': WHATEVER THE INPUT: true; the input reads as it did. -/
def shardsBetweenSpec : ChangeSpec := { name := "shardsBetween", fn := fun _ => fun
  | [d1, d2, d3] => { results := [.lit (.bool true)], args := [d1, d2, d3] }
  | _ => none }
def shardsBetweenRow : OpenClaim := { program := "ytfdgggikjnoghaadoor", sum := "e8296df306a0f2128dd475c3aefadfbd112e2f7dc99ed013b5880ceaa999bd90", func := "abacus/abacuslaw04.ShardsBetween", spec := "shardsBetween", inPlace := ["sync/atomic.LoadUint64", "sync/atomic.SwapUint64", "sync/atomic.AddUint64", "sync/atomic.CompareAndSwapUint64"], unfollowed := true, recurses := true, named := ["abacus/cells.uses"], apart := false, laid := [("abacus/cells.uses", laid_abacus_cells_uses)] }
def ShardsBetweenSaid : Prop := shardsBetweenRow.holds Tryd.pinned (OpenSpec.ofChange shardsBetweenSpec)

/-- ITS FALSE NEIGHBOUR: 'it returns false'. Refute it at one input. -/
def shardsBetweenWrong : ChangeSpec := { name := "shardsBetween", fn := fun _ => fun
  | [d1, d2, d3] => { results := [.lit (.bool false)], args := [d1, d2, d3] }
  | _ => none }
def ShardsBetweenWrongFalsely : Prop := shardsBetweenRow.holds Tryd.pinned (OpenSpec.ofChange shardsBetweenWrong)

/-- 'abacuslaw04.ShardsSteps': WHATEVER THE INPUT: true; the input reads as it did. -/
def shardsStepsSpec : ChangeSpec := { name := "shardsSteps", fn := fun _ => fun
  | [d1, d2, d3] => { results := [.lit (.bool true)], args := [d1, d2, d3] }
  | _ => none }
def shardsStepsRow : OpenClaim := { program := "ytfdgggikjnoghaadoor", sum := "e8296df306a0f2128dd475c3aefadfbd112e2f7dc99ed013b5880ceaa999bd90", func := "abacus/abacuslaw04.ShardsSteps", spec := "shardsSteps", inPlace := ["sync/atomic.LoadUint64", "sync/atomic.SwapUint64", "sync/atomic.AddUint64", "sync/atomic.CompareAndSwapUint64"], unfollowed := true, recurses := true, named := ["abacus/cells.uses"], apart := false, laid := [("abacus/cells.uses", laid_abacus_cells_uses)] }
def ShardsStepsSaid : Prop := shardsStepsRow.holds Tryd.pinned (OpenSpec.ofChange shardsStepsSpec)

/-- ITS FALSE NEIGHBOUR: 'it returns false'. Refute it at one input. -/
def shardsStepsWrong : ChangeSpec := { name := "shardsSteps", fn := fun _ => fun
  | [d1, d2, d3] => { results := [.lit (.bool false)], args := [d1, d2, d3] }
  | _ => none }
def ShardsStepsWrongFalsely : Prop := shardsStepsRow.holds Tryd.pinned (OpenSpec.ofChange shardsStepsWrong)

/-- 'abacuslaw04.ShardsOwn': WHATEVER THE INPUT: true; the input reads as it did. -/
def shardsOwnSpec : ChangeSpec := { name := "shardsOwn", fn := fun _ => fun
  | [d1, d2] => { results := [.lit (.bool true)], args := [d1, d2] }
  | _ => none }
def shardsOwnRow : OpenClaim := { program := "ytfdgggikjnoghaadoor", sum := "e8296df306a0f2128dd475c3aefadfbd112e2f7dc99ed013b5880ceaa999bd90", func := "abacus/abacuslaw04.ShardsOwn", spec := "shardsOwn", inPlace := ["sync/atomic.LoadUint64", "sync/atomic.SwapUint64", "sync/atomic.AddUint64", "sync/atomic.CompareAndSwapUint64"], unfollowed := true, recurses := true, named := ["abacus/cells.uses"], apart := false, laid := [("abacus/cells.uses", laid_abacus_cells_uses)] }
def ShardsOwnSaid : Prop := shardsOwnRow.holds Tryd.pinned (OpenSpec.ofChange shardsOwnSpec)

/-- ITS FALSE NEIGHBOUR: 'it returns false'. Refute it at one input. -/
def shardsOwnWrong : ChangeSpec := { name := "shardsOwn", fn := fun _ => fun
  | [d1, d2] => { results := [.lit (.bool false)], args := [d1, d2] }
  | _ => none }
def ShardsOwnWrongFalsely : Prop := shardsOwnRow.holds Tryd.pinned (OpenSpec.ofChange shardsOwnWrong)

/-- 'abacuslaw04.ShardsCalls': WHATEVER THE INPUT: true; the input reads as it did. -/
def shardsCallsSpec : ChangeSpec := { name := "shardsCalls", fn := fun _ => fun
  | [d1, d2] => { results := [.lit (.bool true)], args := [d1, d2] }
  | _ => none }
def shardsCallsRow : OpenClaim := { program := "ytfdgggikjnoghaadoor", sum := "e8296df306a0f2128dd475c3aefadfbd112e2f7dc99ed013b5880ceaa999bd90", func := "abacus/abacuslaw04.ShardsCalls", spec := "shardsCalls", inPlace := ["sync/atomic.LoadUint64", "sync/atomic.SwapUint64", "sync/atomic.AddUint64", "sync/atomic.CompareAndSwapUint64"], unfollowed := true, recurses := true, named := ["abacus/cells.uses"], apart := false, laid := [("abacus/cells.uses", laid_abacus_cells_uses)] }
def ShardsCallsSaid : Prop := shardsCallsRow.holds Tryd.pinned (OpenSpec.ofChange shardsCallsSpec)

/-- ITS FALSE NEIGHBOUR: 'it returns false'. Refute it at one input. -/
def shardsCallsWrong : ChangeSpec := { name := "shardsCalls", fn := fun _ => fun
  | [d1, d2] => { results := [.lit (.bool false)], args := [d1, d2] }
  | _ => none }
def ShardsCallsWrongFalsely : Prop := shardsCallsRow.holds Tryd.pinned (OpenSpec.ofChange shardsCallsWrong)

/-- 'abacuslaw04.ShardsNil': WHATEVER THE INPUT: true; the input reads as it did. -/
def shardsNilSpec : ChangeSpec := { name := "shardsNil", fn := fun _ => fun
  | [d] => { results := [.lit (.bool true)], args := [d] }
  | _ => none }
def shardsNilRow : OpenClaim := { program := "ytfdgggikjnoghaadoor", sum := "e8296df306a0f2128dd475c3aefadfbd112e2f7dc99ed013b5880ceaa999bd90", func := "abacus/abacuslaw04.ShardsNil", spec := "shardsNil", inPlace := ["sync/atomic.LoadUint64", "sync/atomic.SwapUint64", "sync/atomic.AddUint64", "sync/atomic.CompareAndSwapUint64"], unfollowed := true, recurses := true, named := ["abacus/cells.uses"], apart := false, laid := [("abacus/cells.uses", laid_abacus_cells_uses)] }
def ShardsNilSaid : Prop := shardsNilRow.holds Tryd.pinned (OpenSpec.ofChange shardsNilSpec)

/-- ITS FALSE NEIGHBOUR: 'it returns false'. Refute it at one input. -/
def shardsNilWrong : ChangeSpec := { name := "shardsNil", fn := fun _ => fun
  | [d] => { results := [.lit (.bool false)], args := [d] }
  | _ => none }
def ShardsNilWrongFalsely : Prop := shardsNilRow.holds Tryd.pinned (OpenSpec.ofChange shardsNilWrong)

/-- 'abacuslaw04.ShardsPlain': WHATEVER THE INPUT: true; the input reads as it did. -/
def shardsPlainSpec : ChangeSpec := { name := "shardsPlain", fn := fun _ => fun
  | [d1, d2, d3] => { results := [.lit (.bool true)], args := [d1, d2, d3] }
  | _ => none }
def shardsPlainRow : OpenClaim := { program := "ytfdgggikjnoghaadoor", sum := "e8296df306a0f2128dd475c3aefadfbd112e2f7dc99ed013b5880ceaa999bd90", func := "abacus/abacuslaw04.ShardsPlain", spec := "shardsPlain", inPlace := ["sync/atomic.LoadUint64", "sync/atomic.SwapUint64", "sync/atomic.AddUint64", "sync/atomic.CompareAndSwapUint64"], unfollowed := true, recurses := true, named := ["abacus/cells.uses"], apart := false, laid := [("abacus/cells.uses", laid_abacus_cells_uses)] }
def ShardsPlainSaid : Prop := shardsPlainRow.holds Tryd.pinned (OpenSpec.ofChange shardsPlainSpec)

/-- ITS FALSE NEIGHBOUR: 'it returns false'. Refute it at one input. -/
def shardsPlainWrong : ChangeSpec := { name := "shardsPlain", fn := fun _ => fun
  | [d1, d2, d3] => { results := [.lit (.bool false)], args := [d1, d2, d3] }
  | _ => none }
def ShardsPlainWrongFalsely : Prop := shardsPlainRow.holds Tryd.pinned (OpenSpec.ofChange shardsPlainWrong)

/- THE SECOND FORM. 'bulk': how many values and letters a reading holds, each counted each time it is reached (what is shared counts as often as it is met; a slice's spare places count too). A statement '..UptoSaid' is the law's where the arguments, and the package variables that the reading takes, are together of bulk at most 1048576: NARROWER than '..Said'. Prove '..Said' where nothing that the law and all that it calls make is longer than what came in: it says more and counts as full. Else prove '..UptoSaid'. A law counts once. -/
mutual
def uptoBulk {H : Type} : DataW H → Nat
  | .lit (.string bytes) => bytes.length + 1
  | .lit _ => 1
  | .nil => 1
  | .ptr d => uptoBulk d + 1
  | .slice elems spare => uptoBulkAll elems + uptoBulkAll spare + 1
  | .agg parts => uptoBulkAll parts + 1
  | .iface _ d => uptoBulk d + 1
  | .map entries => uptoBulkEntries entries + 1
  | .held _ => 1
def uptoBulkAll {H : Type} : List (DataW H) → Nat
  | [] => 0
  | d :: r => uptoBulk d + uptoBulkAll r
def uptoBulkEntries {H : Type} : List (Lit × DataW H) → Nat
  | [] => 0
  | x :: r => uptoBulkEntry x + uptoBulkEntries r
def uptoBulkEntry {H : Type} : Lit × DataW H → Nat
  | (.string bytes, d) => bytes.length + uptoBulk d + 1
  | (_, d) => uptoBulk d + 1
 end
def uptoSmall : (H : Type) → List (DataW H) → Bool := fun _ ds => decide (uptoBulkAll ds ≤ 1048576)
def OpenSpec.upto (s : _root_.Go.ChangeSpec) : _root_.Go.OpenSpec := { _root_.Go.OpenSpec.ofChange s with cond := some uptoSmall }

/-- 'abacuslaw04.ShardsStill', WHERE WHAT IT READS IS OF BULK AT MOST 1048576: true; the input reads as it did. -/
def shardsStillUptoRow : OpenClaim := { program := "ytfdgggikjnoghaadoor", sum := "e8296df306a0f2128dd475c3aefadfbd112e2f7dc99ed013b5880ceaa999bd90", func := "abacus/abacuslaw04.ShardsStill", spec := "shardsStill", inPlace := ["sync/atomic.LoadUint64", "sync/atomic.SwapUint64", "sync/atomic.AddUint64", "sync/atomic.CompareAndSwapUint64"], unfollowed := true, recurses := true, named := ["abacus/cells.uses"], apart := false, laid := [("abacus/cells.uses", laid_abacus_cells_uses)], narrowed := true }
def ShardsStillUptoSaid : Prop := shardsStillUptoRow.holds Tryd.pinned (OpenSpec.upto shardsStillSpec)

/-- 'abacuslaw04.ShardsBetween', WHERE WHAT IT READS IS OF BULK AT MOST 1048576: true; the input reads as it did. -/
def shardsBetweenUptoRow : OpenClaim := { program := "ytfdgggikjnoghaadoor", sum := "e8296df306a0f2128dd475c3aefadfbd112e2f7dc99ed013b5880ceaa999bd90", func := "abacus/abacuslaw04.ShardsBetween", spec := "shardsBetween", inPlace := ["sync/atomic.LoadUint64", "sync/atomic.SwapUint64", "sync/atomic.AddUint64", "sync/atomic.CompareAndSwapUint64"], unfollowed := true, recurses := true, named := ["abacus/cells.uses"], apart := false, laid := [("abacus/cells.uses", laid_abacus_cells_uses)], narrowed := true }
def ShardsBetweenUptoSaid : Prop := shardsBetweenUptoRow.holds Tryd.pinned (OpenSpec.upto shardsBetweenSpec)

/-- 'abacuslaw04.ShardsSteps', WHERE WHAT IT READS IS OF BULK AT MOST 1048576: true; the input reads as it did. -/
def shardsStepsUptoRow : OpenClaim := { program := "ytfdgggikjnoghaadoor", sum := "e8296df306a0f2128dd475c3aefadfbd112e2f7dc99ed013b5880ceaa999bd90", func := "abacus/abacuslaw04.ShardsSteps", spec := "shardsSteps", inPlace := ["sync/atomic.LoadUint64", "sync/atomic.SwapUint64", "sync/atomic.AddUint64", "sync/atomic.CompareAndSwapUint64"], unfollowed := true, recurses := true, named := ["abacus/cells.uses"], apart := false, laid := [("abacus/cells.uses", laid_abacus_cells_uses)], narrowed := true }
def ShardsStepsUptoSaid : Prop := shardsStepsUptoRow.holds Tryd.pinned (OpenSpec.upto shardsStepsSpec)

/-- 'abacuslaw04.ShardsOwn', WHERE WHAT IT READS IS OF BULK AT MOST 1048576: true; the input reads as it did. -/
def shardsOwnUptoRow : OpenClaim := { program := "ytfdgggikjnoghaadoor", sum := "e8296df306a0f2128dd475c3aefadfbd112e2f7dc99ed013b5880ceaa999bd90", func := "abacus/abacuslaw04.ShardsOwn", spec := "shardsOwn", inPlace := ["sync/atomic.LoadUint64", "sync/atomic.SwapUint64", "sync/atomic.AddUint64", "sync/atomic.CompareAndSwapUint64"], unfollowed := true, recurses := true, named := ["abacus/cells.uses"], apart := false, laid := [("abacus/cells.uses", laid_abacus_cells_uses)], narrowed := true }
def ShardsOwnUptoSaid : Prop := shardsOwnUptoRow.holds Tryd.pinned (OpenSpec.upto shardsOwnSpec)

/-- 'abacuslaw04.ShardsCalls', WHERE WHAT IT READS IS OF BULK AT MOST 1048576: true; the input reads as it did. -/
def shardsCallsUptoRow : OpenClaim := { program := "ytfdgggikjnoghaadoor", sum := "e8296df306a0f2128dd475c3aefadfbd112e2f7dc99ed013b5880ceaa999bd90", func := "abacus/abacuslaw04.ShardsCalls", spec := "shardsCalls", inPlace := ["sync/atomic.LoadUint64", "sync/atomic.SwapUint64", "sync/atomic.AddUint64", "sync/atomic.CompareAndSwapUint64"], unfollowed := true, recurses := true, named := ["abacus/cells.uses"], apart := false, laid := [("abacus/cells.uses", laid_abacus_cells_uses)], narrowed := true }
def ShardsCallsUptoSaid : Prop := shardsCallsUptoRow.holds Tryd.pinned (OpenSpec.upto shardsCallsSpec)

/-- 'abacuslaw04.ShardsNil', WHERE WHAT IT READS IS OF BULK AT MOST 1048576: true; the input reads as it did. -/
def shardsNilUptoRow : OpenClaim := { program := "ytfdgggikjnoghaadoor", sum := "e8296df306a0f2128dd475c3aefadfbd112e2f7dc99ed013b5880ceaa999bd90", func := "abacus/abacuslaw04.ShardsNil", spec := "shardsNil", inPlace := ["sync/atomic.LoadUint64", "sync/atomic.SwapUint64", "sync/atomic.AddUint64", "sync/atomic.CompareAndSwapUint64"], unfollowed := true, recurses := true, named := ["abacus/cells.uses"], apart := false, laid := [("abacus/cells.uses", laid_abacus_cells_uses)], narrowed := true }
def ShardsNilUptoSaid : Prop := shardsNilUptoRow.holds Tryd.pinned (OpenSpec.upto shardsNilSpec)

/-- 'abacuslaw04.ShardsPlain', WHERE WHAT IT READS IS OF BULK AT MOST 1048576: true; the input reads as it did. -/
def shardsPlainUptoRow : OpenClaim := { program := "ytfdgggikjnoghaadoor", sum := "e8296df306a0f2128dd475c3aefadfbd112e2f7dc99ed013b5880ceaa999bd90", func := "abacus/abacuslaw04.ShardsPlain", spec := "shardsPlain", inPlace := ["sync/atomic.LoadUint64", "sync/atomic.SwapUint64", "sync/atomic.AddUint64", "sync/atomic.CompareAndSwapUint64"], unfollowed := true, recurses := true, named := ["abacus/cells.uses"], apart := false, laid := [("abacus/cells.uses", laid_abacus_cells_uses)], narrowed := true }
def ShardsPlainUptoSaid : Prop := shardsPlainUptoRow.holds Tryd.pinned (OpenSpec.upto shardsPlainSpec)

end Rows
end Go.Proofs.YtfdgggikjnoghaaDoor
