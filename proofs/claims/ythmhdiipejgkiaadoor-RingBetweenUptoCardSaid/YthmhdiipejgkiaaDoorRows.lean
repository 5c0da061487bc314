/-
  NARROWER THAN 'FOR EVERY INPUT', by the rows' own cells (each row's printed sentence says how): RingPlain: laid · RingStill: laid · RingBetween: laid · SemNever: laid · SemOrder: laid.
  DERIVED. THE GIVEN ROWS OF THIS SEAT. 5 by the template 'for every input the law returns true; each argument reads behind the call as it read before'; 0 by the template 'total and deterministic' (their statements: YthmhdiipejgkiaaDoorTotals.lean).
  GIVEN WITH THE SEED: the statements are not yours to turn. If you find one false, say at which input.
  Laid BY PROGRAM, IN A SANDBOX (cutbox-rows.mjs): the forced cells as the released guide's own fill.sh prints them over the translation 375153ceeae68fab… (all of the seat's roots in one cut). By AI agents, Wed Nov 11 2026. No macro, syntax, notation, axiom, sorry.
-/
import Derived.Test.YthmhdiipejgkiaaDoorChecked
import GoSem.Claim
import GoSem.ClaimJoined
import GoSem.ClaimMapViews
import Derived.JoinedTies
import Derived.KernelRfl
namespace Go.Proofs.YthmhdiipejgkiaaDoor
/- THE CELL 'sum', in the pinned program and in every row, IS THE sha256 OF THE DUMP (.gsa) THAT YthmhdiipejgkiaaDoorProg.lean LOADS. Nothing in Lean hashes anything: it is a label: what it is worth is what the hold of that sum in a sandbox is worth. -/
noncomputable def Tryd.pinned : Pinned := { name := "ythmhdiipejgkiaadoor", sum := "375153ceeae68fabfc2838f065c1c6d41de961062164715ab5ff99e821889545", checked := Tryd.checked }
namespace Rows
def none {H : Type} : Left H := { results := [], args := [] }

/- WHAT THE LISTED PACKAGE-LEVEL VARIABLES READ AS WHEN THE CALL BEGINS. Each datum BY PROGRAM (the guide's laid-datum.mjs) off the statement by which the dump's own 'gosem.cut.vars' lays the variable. In a bare row this is a premise. The card (YthmhdiipejgkiaaDoorCards.lean) ties it to the program's text. -/
def laid_abacus_cells_uses {H : Type} : DataW H := .agg [.agg [.lit (.bool false), .lit (.bool false)], .agg [.lit (.bool false), .lit (.bool false)], .agg [.lit (.bool false), .lit (.bool true)], .agg [.lit (.bool false), .lit (.bool true)], .agg [.lit (.bool false), .lit (.bool true)], .agg [.lit (.bool true), .lit (.bool true)]]

/-- 'abacuslaw05.RingPlain': WHATEVER THE INPUT: true; the input reads as it did. -/
def ringPlainSpec : ChangeSpec := { name := "ringPlain", fn := fun _ => fun
  | [d1, d2, d3] => { results := [.lit (.bool true)], args := [d1, d2, d3] }
  | _ => none }
def ringPlainRow : OpenClaim := { program := "ythmhdiipejgkiaadoor", sum := "375153ceeae68fabfc2838f065c1c6d41de961062164715ab5ff99e821889545", func := "abacus/abacuslaw05.RingPlain", spec := "ringPlain", inPlace := ["sync/atomic.LoadUint64", "sync/atomic.SwapUint64", "sync/atomic.AddUint64", "sync/atomic.CompareAndSwapUint64"], unfollowed := true, recurses := true, named := ["abacus/cells.uses"], apart := false, laid := [("abacus/cells.uses", laid_abacus_cells_uses)] }
def RingPlainSaid : Prop := ringPlainRow.holds Tryd.pinned (OpenSpec.ofChange ringPlainSpec)

/-- ITS FALSE NEIGHBOUR: 'it returns false'. Refute it at one input. -/
def ringPlainWrong : ChangeSpec := { name := "ringPlain", fn := fun _ => fun
  | [d1, d2, d3] => { results := [.lit (.bool false)], args := [d1, d2, d3] }
  | _ => none }
def RingPlainWrongFalsely : Prop := ringPlainRow.holds Tryd.pinned (OpenSpec.ofChange ringPlainWrong)

/-- 'abacuslaw05.RingStill': WHATEVER THE INPUT: true; the input reads as it did. -/
def ringStillSpec : ChangeSpec := { name := "ringStill", fn := fun _ => fun
  | [d1, d2, d3, d4] => { results := [.lit (.bool true)], args := [d1, d2, d3, d4] }
  | _ => none }
def ringStillRow : OpenClaim := { program := "ythmhdiipejgkiaadoor", sum := "375153ceeae68fabfc2838f065c1c6d41de961062164715ab5ff99e821889545", func := "abacus/abacuslaw05.RingStill", spec := "ringStill", inPlace := ["sync/atomic.LoadUint64", "sync/atomic.SwapUint64", "sync/atomic.AddUint64", "sync/atomic.CompareAndSwapUint64"], unfollowed := true, recurses := true, named := ["abacus/cells.uses"], apart := false, laid := [("abacus/cells.uses", laid_abacus_cells_uses)] }
def RingStillSaid : Prop := ringStillRow.holds Tryd.pinned (OpenSpec.ofChange ringStillSpec)

/-- ITS FALSE NEIGHBOUR: 'it returns false'. Refute it at one input. -/
def ringStillWrong : ChangeSpec := { name := "ringStill", fn := fun _ => fun
  | [d1, d2, d3, d4] => { results := [.lit (.bool false)], args := [d1, d2, d3, d4] }
  | _ => none }
def RingStillWrongFalsely : Prop := ringStillRow.holds Tryd.pinned (OpenSpec.ofChange ringStillWrong)

/-- 'abacuslaw05.RingBetween': WHATEVER THE INPUT: true; the input reads as it did. -/
def ringBetweenSpec : ChangeSpec := { name := "ringBetween", fn := fun _ => fun
  | [d1, d2, d3, d4] => { results := [.lit (.bool true)], args := [d1, d2, d3, d4] }
  | _ => none }
def ringBetweenRow : OpenClaim := { program := "ythmhdiipejgkiaadoor", sum := "375153ceeae68fabfc2838f065c1c6d41de961062164715ab5ff99e821889545", func := "abacus/abacuslaw05.RingBetween", spec := "ringBetween", inPlace := ["sync/atomic.LoadUint64", "sync/atomic.SwapUint64", "sync/atomic.AddUint64", "sync/atomic.CompareAndSwapUint64"], unfollowed := true, recurses := true, named := ["abacus/cells.uses"], apart := false, laid := [("abacus/cells.uses", laid_abacus_cells_uses)] }
def RingBetweenSaid : Prop := ringBetweenRow.holds Tryd.pinned (OpenSpec.ofChange ringBetweenSpec)

/-- ITS FALSE NEIGHBOUR: 'it returns false'. Refute it at one input. -/
def ringBetweenWrong : ChangeSpec := { name := "ringBetween", fn := fun _ => fun
  | [d1, d2, d3, d4] => { results := [.lit (.bool false)], args := [d1, d2, d3, d4] }
  | _ => none }
def RingBetweenWrongFalsely : Prop := ringBetweenRow.holds Tryd.pinned (OpenSpec.ofChange ringBetweenWrong)

/-- 'abacuslaw07.SemNever': WHATEVER THE INPUT: true; the input reads as it did. -/
def semNeverSpec : ChangeSpec := { name := "semNever", fn := fun _ => fun
  | [d1, d2, d3, d4, d5] => { results := [.lit (.bool true)], args := [d1, d2, d3, d4, d5] }
  | _ => none }
def semNeverRow : OpenClaim := { program := "ythmhdiipejgkiaadoor", sum := "375153ceeae68fabfc2838f065c1c6d41de961062164715ab5ff99e821889545", func := "abacus/abacuslaw07.SemNever", spec := "semNever", inPlace := ["sync/atomic.LoadUint64", "sync/atomic.SwapUint64", "sync/atomic.AddUint64", "sync/atomic.CompareAndSwapUint64"], unfollowed := true, recurses := true, named := ["abacus/cells.uses"], apart := false, laid := [("abacus/cells.uses", laid_abacus_cells_uses)] }
def SemNeverSaid : Prop := semNeverRow.holds Tryd.pinned (OpenSpec.ofChange semNeverSpec)

/-- ITS FALSE NEIGHBOUR: 'it returns false'. Refute it at one input. -/
def semNeverWrong : ChangeSpec := { name := "semNever", fn := fun _ => fun
  | [d1, d2, d3, d4, d5] => { results := [.lit (.bool false)], args := [d1, d2, d3, d4, d5] }
  | _ => none }
def SemNeverWrongFalsely : Prop := semNeverRow.holds Tryd.pinned (OpenSpec.ofChange semNeverWrong)

/-- 'abacuslaw07.SemOrder': WHATEVER THE INPUT: true; the input reads as it did. -/
def semOrderSpec : ChangeSpec := { name := "semOrder", fn := fun _ => fun
  | [d1, d2, d3] => { results := [.lit (.bool true)], args := [d1, d2, d3] }
  | _ => none }
def semOrderRow : OpenClaim := { program := "ythmhdiipejgkiaadoor", sum := "375153ceeae68fabfc2838f065c1c6d41de961062164715ab5ff99e821889545", func := "abacus/abacuslaw07.SemOrder", spec := "semOrder", inPlace := ["sync/atomic.LoadUint64", "sync/atomic.SwapUint64", "sync/atomic.AddUint64", "sync/atomic.CompareAndSwapUint64"], unfollowed := true, recurses := true, named := ["abacus/cells.uses"], apart := false, laid := [("abacus/cells.uses", laid_abacus_cells_uses)] }
def SemOrderSaid : Prop := semOrderRow.holds Tryd.pinned (OpenSpec.ofChange semOrderSpec)

/-- ITS FALSE NEIGHBOUR: 'it returns false'. Refute it at one input. -/
def semOrderWrong : ChangeSpec := { name := "semOrder", fn := fun _ => fun
  | [d1, d2, d3] => { results := [.lit (.bool false)], args := [d1, d2, d3] }
  | _ => none }
def SemOrderWrongFalsely : Prop := semOrderRow.holds Tryd.pinned (OpenSpec.ofChange semOrderWrong)

/- THE SECOND FORM. 'bulk': how many values and letters a reading holds, each counted each time it is reached (what is shared counts as often as it is met; a slice's spare places count too). A statement '..UptoSaid' is the law's where the arguments, and the package variables that the reading takes, are together of bulk at most 1048576: NARROWER than '..Said'. Prove '..Said' where nothing that the law and all that it calls make is longer than what came in: it says more and counts as full. Else prove '..UptoSaid'. A law counts once. -/
mutual
def uptoBulk {H : Type} : DataW H → Nat
  | .lit (.string bytes) => bytes.length + 1
  | .lit _ => 1
  | .nil => 1
  | .ptr d => uptoBulk d + 1
  | .slice elems spare => uptoBulkAll elems + uptoBulkAll spare + 1
  | .agg parts => uptoBulkAll parts + 1
  | .iface _ d => uptoBulk d + 1
  | .map entries => uptoBulkEntries entries + 1
  | .held _ => 1
def uptoBulkAll {H : Type} : List (DataW H) → Nat
  | [] => 0
  | d :: r => uptoBulk d + uptoBulkAll r
def uptoBulkEntries {H : Type} : List (Lit × DataW H) → Nat
  | [] => 0
  | x :: r => uptoBulkEntry x + uptoBulkEntries r
def uptoBulkEntry {H : Type} : Lit × DataW H → Nat
  | (.string bytes, d) => bytes.length + uptoBulk d + 1
  | (_, d) => uptoBulk d + 1
 end
def uptoSmall : (H : Type) → List (DataW H) → Bool := fun _ ds => decide (uptoBulkAll ds ≤ 1048576)
def OpenSpec.upto (s : _root_.Go.ChangeSpec) : _root_.Go.OpenSpec := { _root_.Go.OpenSpec.ofChange s with cond := some uptoSmall }

/-- 'abacuslaw05.RingPlain', WHERE WHAT IT READS IS OF BULK AT MOST 1048576: true; the input reads as it did. -/
def ringPlainUptoRow : OpenClaim := { program := "ythmhdiipejgkiaadoor", sum := "375153ceeae68fabfc2838f065c1c6d41de961062164715ab5ff99e821889545", func := "abacus/abacuslaw05.RingPlain", spec := "ringPlain", inPlace := ["sync/atomic.LoadUint64", "sync/atomic.SwapUint64", "sync/atomic.AddUint64", "sync/atomic.CompareAndSwapUint64"], unfollowed := true, recurses := true, named := ["abacus/cells.uses"], apart := false, laid := [("abacus/cells.uses", laid_abacus_cells_uses)], narrowed := true }
def RingPlainUptoSaid : Prop := ringPlainUptoRow.holds Tryd.pinned (OpenSpec.upto ringPlainSpec)

/-- 'abacuslaw05.RingStill', WHERE WHAT IT READS IS OF BULK AT MOST 1048576: true; the input reads as it did. -/
def ringStillUptoRow : OpenClaim := { program := "ythmhdiipejgkiaadoor", sum := "375153ceeae68fabfc2838f065c1c6d41de961062164715ab5ff99e821889545", func := "abacus/abacuslaw05.RingStill", spec := "ringStill", inPlace := ["sync/atomic.LoadUint64", "sync/atomic.SwapUint64", "sync/atomic.AddUint64", "sync/atomic.CompareAndSwapUint64"], unfollowed := true, recurses := true, named := ["abacus/cells.uses"], apart := false, laid := [("abacus/cells.uses", laid_abacus_cells_uses)], narrowed := true }
def RingStillUptoSaid : Prop := ringStillUptoRow.holds Tryd.pinned (OpenSpec.upto ringStillSpec)

/-- 'abacuslaw05.RingBetween', WHERE WHAT IT READS IS OF BULK AT MOST 1048576: true; the input reads as it did. -/
def ringBetweenUptoRow : OpenClaim := { program := "ythmhdiipejgkiaadoor", sum := "375153ceeae68fabfc2838f065c1c6d41de961062164715ab5ff99e821889545", func := "abacus/abacuslaw05.RingBetween", spec := "ringBetween", inPlace := ["sync/atomic.LoadUint64", "sync/atomic.SwapUint64", "sync/atomic.AddUint64", "sync/atomic.CompareAndSwapUint64"], unfollowed := true, recurses := true, named := ["abacus/cells.uses"], apart := false, laid := [("abacus/cells.uses", laid_abacus_cells_uses)], narrowed := true }
def RingBetweenUptoSaid : Prop := ringBetweenUptoRow.holds Tryd.pinned (OpenSpec.upto ringBetweenSpec)

/-- 'abacuslaw07.SemNever', WHERE WHAT IT READS IS OF BULK AT MOST 1048576: true; the input reads as it did. -/
def semNeverUptoRow : OpenClaim := { program := "ythmhdiipejgkiaadoor", sum := "375153ceeae68fabfc2838f065c1c6d41de961062164715ab5ff99e821889545", func := "abacus/abacuslaw07.SemNever", spec := "semNever", inPlace := ["sync/atomic.LoadUint64", "sync/atomic.SwapUint64", "sync/atomic.AddUint64", "sync/atomic.CompareAndSwapUint64"], unfollowed := true, recurses := true, named := ["abacus/cells.uses"], apart := false, laid := [("abacus/cells.uses", laid_abacus_cells_uses)], narrowed := true }
def SemNeverUptoSaid : Prop := semNeverUptoRow.holds Tryd.pinned (OpenSpec.upto semNeverSpec)

/-- 'abacuslaw07.SemOrder', WHERE WHAT IT READS IS OF BULK AT MOST 1048576: true; the input reads as it did. -/
def semOrderUptoRow : OpenClaim := { program := "ythmhdiipejgkiaadoor", sum := "375153ceeae68fabfc2838f065c1c6d41de961062164715ab5ff99e821889545", func := "abacus/abacuslaw07.SemOrder", spec := "semOrder", inPlace := ["sync/atomic.LoadUint64", "sync/atomic.SwapUint64", "sync/atomic.AddUint64", "sync/atomic.CompareAndSwapUint64"], unfollowed := true, recurses := true, named := ["abacus/cells.uses"], apart := false, laid := [("abacus/cells.uses", laid_abacus_cells_uses)], narrowed := true }
def SemOrderUptoSaid : Prop := semOrderUptoRow.holds Tryd.pinned (OpenSpec.upto semOrderSpec)

end Rows
end Go.Proofs.YthmhdiipejgkiaaDoor
