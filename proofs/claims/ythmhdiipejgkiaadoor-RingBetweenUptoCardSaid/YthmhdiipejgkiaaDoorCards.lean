/-
  DERIVED. GIVEN WITH THE SEED: THE CARDS: each row of YthmhdiipejgkiaaDoorRows.lean that lists a variable, with what it lists TIED to the program's text (the seventh form; the later family's looks); each row that meets fmt, with fmt's text TOLD by the authors' own Lean function (tested against real Go, not proved from fmt's source: count such statements apart). THE CARD IS WHAT COUNTS. Prove the row's statement (the work); the ties are given (YthmhdiipejgkiaaDoorTie.lean); close each card by the builder's one call (the guide's Derived/Test/ToyasCard.lean, 'card_holds'). Laid BY PROGRAM, IN A SANDBOX (cutbox-door.mjs). By AI agents, Wed Nov 11 2026. No macro, syntax, notation, axiom, sorry.
-/
import Derived.Test.YthmhdiipejgkiaaDoorRows
import GoSem.ClaimSeven
namespace Go.Proofs.YthmhdiipejgkiaaDoor
namespace Rows

/-- THE TIED CARD OF 'abacuslaw05.RingPlain'. -/
def ringPlainCard : Claim7 := { stood := { row := ringPlainRow, standIns := [], harness := (true, "46ed734f0ee8972741847960d4d88b9b214434309dd3197a23cb7721953dd6e7"), looks := false }, kinds := [], alts := [], laidByText := true, laidKinds := [.data], laidTests := true, laidLooks := .later }
def RingPlainCardSaid : Prop := Claim7.holds Tryd.pinned (.plain (OpenSpec.ofChange ringPlainSpec)) ringPlainCard

/-- THE TIED CARD OF 'abacuslaw05.RingStill'. -/
def ringStillCard : Claim7 := { stood := { row := ringStillRow, standIns := [], harness := (true, "46ed734f0ee8972741847960d4d88b9b214434309dd3197a23cb7721953dd6e7"), looks := false }, kinds := [], alts := [], laidByText := true, laidKinds := [.data], laidTests := true, laidLooks := .later }
def RingStillCardSaid : Prop := Claim7.holds Tryd.pinned (.plain (OpenSpec.ofChange ringStillSpec)) ringStillCard

/-- THE TIED CARD OF 'abacuslaw05.RingBetween'. -/
def ringBetweenCard : Claim7 := { stood := { row := ringBetweenRow, standIns := [], harness := (true, "46ed734f0ee8972741847960d4d88b9b214434309dd3197a23cb7721953dd6e7"), looks := false }, kinds := [], alts := [], laidByText := true, laidKinds := [.data], laidTests := true, laidLooks := .later }
def RingBetweenCardSaid : Prop := Claim7.holds Tryd.pinned (.plain (OpenSpec.ofChange ringBetweenSpec)) ringBetweenCard

/-- THE TIED CARD OF 'abacuslaw07.SemNever'. -/
def semNeverCard : Claim7 := { stood := { row := semNeverRow, standIns := [], harness := (true, "46ed734f0ee8972741847960d4d88b9b214434309dd3197a23cb7721953dd6e7"), looks := false }, kinds := [], alts := [], laidByText := true, laidKinds := [.data], laidTests := true, laidLooks := .later }
def SemNeverCardSaid : Prop := Claim7.holds Tryd.pinned (.plain (OpenSpec.ofChange semNeverSpec)) semNeverCard

/-- THE TIED CARD OF 'abacuslaw07.SemOrder'. -/
def semOrderCard : Claim7 := { stood := { row := semOrderRow, standIns := [], harness := (true, "46ed734f0ee8972741847960d4d88b9b214434309dd3197a23cb7721953dd6e7"), looks := false }, kinds := [], alts := [], laidByText := true, laidKinds := [.data], laidTests := true, laidLooks := .later }
def SemOrderCardSaid : Prop := Claim7.holds Tryd.pinned (.plain (OpenSpec.ofChange semOrderSpec)) semOrderCard

/-- THE SECOND FORM's CARD OF 'abacuslaw05.RingPlain'. -/
def ringPlainUptoCard : Claim7 := { stood := { row := ringPlainUptoRow, standIns := [], harness := (true, "46ed734f0ee8972741847960d4d88b9b214434309dd3197a23cb7721953dd6e7"), looks := false }, kinds := [], alts := [], laidByText := true, laidKinds := [.data], laidTests := true, laidLooks := .later }
def RingPlainUptoCardSaid : Prop := Claim7.holds Tryd.pinned (.plain (OpenSpec.upto ringPlainSpec)) ringPlainUptoCard

/-- THE SECOND FORM's CARD OF 'abacuslaw05.RingStill'. -/
def ringStillUptoCard : Claim7 := { stood := { row := ringStillUptoRow, standIns := [], harness := (true, "46ed734f0ee8972741847960d4d88b9b214434309dd3197a23cb7721953dd6e7"), looks := false }, kinds := [], alts := [], laidByText := true, laidKinds := [.data], laidTests := true, laidLooks := .later }
def RingStillUptoCardSaid : Prop := Claim7.holds Tryd.pinned (.plain (OpenSpec.upto ringStillSpec)) ringStillUptoCard

/-- THE SECOND FORM's CARD OF 'abacuslaw05.RingBetween'. -/
def ringBetweenUptoCard : Claim7 := { stood := { row := ringBetweenUptoRow, standIns := [], harness := (true, "46ed734f0ee8972741847960d4d88b9b214434309dd3197a23cb7721953dd6e7"), looks := false }, kinds := [], alts := [], laidByText := true, laidKinds := [.data], laidTests := true, laidLooks := .later }
def RingBetweenUptoCardSaid : Prop := Claim7.holds Tryd.pinned (.plain (OpenSpec.upto ringBetweenSpec)) ringBetweenUptoCard

/-- THE SECOND FORM's CARD OF 'abacuslaw07.SemNever'. -/
def semNeverUptoCard : Claim7 := { stood := { row := semNeverUptoRow, standIns := [], harness := (true, "46ed734f0ee8972741847960d4d88b9b214434309dd3197a23cb7721953dd6e7"), looks := false }, kinds := [], alts := [], laidByText := true, laidKinds := [.data], laidTests := true, laidLooks := .later }
def SemNeverUptoCardSaid : Prop := Claim7.holds Tryd.pinned (.plain (OpenSpec.upto semNeverSpec)) semNeverUptoCard

/-- THE SECOND FORM's CARD OF 'abacuslaw07.SemOrder'. -/
def semOrderUptoCard : Claim7 := { stood := { row := semOrderUptoRow, standIns := [], harness := (true, "46ed734f0ee8972741847960d4d88b9b214434309dd3197a23cb7721953dd6e7"), looks := false }, kinds := [], alts := [], laidByText := true, laidKinds := [.data], laidTests := true, laidLooks := .later }
def SemOrderUptoCardSaid : Prop := Claim7.holds Tryd.pinned (.plain (OpenSpec.upto semOrderSpec)) semOrderUptoCard
end Rows
end Go.Proofs.YthmhdiipejgkiaaDoor
