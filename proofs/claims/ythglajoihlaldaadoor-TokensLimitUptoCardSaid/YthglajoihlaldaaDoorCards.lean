/-
  DERIVED. GIVEN WITH THE SEED: THE CARDS: each row of YthglajoihlaldaaDoorRows.lean that lists a variable, with what it lists TIED to the program's text (the seventh form; the later family's looks); each row that meets fmt, with fmt's text TOLD by the authors' own Lean function (tested against real Go, not proved from fmt's source: count such statements apart). THE CARD IS WHAT COUNTS. Prove the row's statement (the work); the ties are given (YthglajoihlaldaaDoorTie.lean); close each card by the builder's one call (the guide's Derived/Test/ToyasCard.lean, 'card_holds'). Laid BY PROGRAM, IN A SANDBOX (cutbox-door.mjs). By AI agents, Wed Nov 11 2026. No macro, syntax, notation, axiom, sorry.
-/
import Derived.Test.YthglajoihlaldaaDoorRows
import GoSem.ClaimSeven
namespace Go.Proofs.YthglajoihlaldaaDoor
namespace Rows

/-- THE TIED CARD OF 'abacuslaw06.TokensWait'. -/
def tokensWaitCard : Claim7 := { stood := { row := tokensWaitRow, standIns := [], harness := (true, "65e841ebd4c6087009629f2d7aeae198bfb648f08eb54837e9999e4c91de0b00"), looks := false }, kinds := [], alts := [], laidByText := true, laidKinds := [.data], laidTests := true, laidLooks := .later }
def TokensWaitCardSaid : Prop := Claim7.holds Tryd.pinned (.plain (OpenSpec.ofChange tokensWaitSpec)) tokensWaitCard

/-- THE TIED CARD OF 'abacuslaw06.TokensLimit'. -/
def tokensLimitCard : Claim7 := { stood := { row := tokensLimitRow, standIns := [], harness := (true, "65e841ebd4c6087009629f2d7aeae198bfb648f08eb54837e9999e4c91de0b00"), looks := false }, kinds := [], alts := [], laidByText := true, laidKinds := [.data], laidTests := true, laidLooks := .later }
def TokensLimitCardSaid : Prop := Claim7.holds Tryd.pinned (.plain (OpenSpec.ofChange tokensLimitSpec)) tokensLimitCard

/-- THE TIED CARD OF 'abacuslaw06.TokensSteps'. -/
def tokensStepsCard : Claim7 := { stood := { row := tokensStepsRow, standIns := [], harness := (true, "65e841ebd4c6087009629f2d7aeae198bfb648f08eb54837e9999e4c91de0b00"), looks := false }, kinds := [], alts := [], laidByText := true, laidKinds := [.data], laidTests := true, laidLooks := .later }
def TokensStepsCardSaid : Prop := Claim7.holds Tryd.pinned (.plain (OpenSpec.ofChange tokensStepsSpec)) tokensStepsCard

/-- THE TIED CARD OF 'abacuslaw06.TokensCalls'. -/
def tokensCallsCard : Claim7 := { stood := { row := tokensCallsRow, standIns := [], harness := (true, "65e841ebd4c6087009629f2d7aeae198bfb648f08eb54837e9999e4c91de0b00"), looks := false }, kinds := [], alts := [], laidByText := true, laidKinds := [.data], laidTests := true, laidLooks := .later }
def TokensCallsCardSaid : Prop := Claim7.holds Tryd.pinned (.plain (OpenSpec.ofChange tokensCallsSpec)) tokensCallsCard

/-- THE TIED CARD OF 'abacuslaw06.TokensNil'. -/
def tokensNilCard : Claim7 := { stood := { row := tokensNilRow, standIns := [], harness := (true, "65e841ebd4c6087009629f2d7aeae198bfb648f08eb54837e9999e4c91de0b00"), looks := false }, kinds := [], alts := [], laidByText := true, laidKinds := [.data], laidTests := true, laidLooks := .later }
def TokensNilCardSaid : Prop := Claim7.holds Tryd.pinned (.plain (OpenSpec.ofChange tokensNilSpec)) tokensNilCard

/-- THE TIED CARD OF 'abacuslaw06.TokensFree'. -/
def tokensFreeCard : Claim7 := { stood := { row := tokensFreeRow, standIns := [], harness := (true, "65e841ebd4c6087009629f2d7aeae198bfb648f08eb54837e9999e4c91de0b00"), looks := false }, kinds := [], alts := [], laidByText := true, laidKinds := [.data], laidTests := true, laidLooks := .later }
def TokensFreeCardSaid : Prop := Claim7.holds Tryd.pinned (.plain (OpenSpec.ofChange tokensFreeSpec)) tokensFreeCard

/-- THE TIED CARD OF 'abacuslaw06.TokensPlain'. -/
def tokensPlainCard : Claim7 := { stood := { row := tokensPlainRow, standIns := [], harness := (true, "65e841ebd4c6087009629f2d7aeae198bfb648f08eb54837e9999e4c91de0b00"), looks := false }, kinds := [], alts := [], laidByText := true, laidKinds := [.data], laidTests := true, laidLooks := .later }
def TokensPlainCardSaid : Prop := Claim7.holds Tryd.pinned (.plain (OpenSpec.ofChange tokensPlainSpec)) tokensPlainCard

/-- THE SECOND FORM's CARD OF 'abacuslaw06.TokensWait'. -/
def tokensWaitUptoCard : Claim7 := { stood := { row := tokensWaitUptoRow, standIns := [], harness := (true, "65e841ebd4c6087009629f2d7aeae198bfb648f08eb54837e9999e4c91de0b00"), looks := false }, kinds := [], alts := [], laidByText := true, laidKinds := [.data], laidTests := true, laidLooks := .later }
def TokensWaitUptoCardSaid : Prop := Claim7.holds Tryd.pinned (.plain (OpenSpec.upto tokensWaitSpec)) tokensWaitUptoCard

/-- THE SECOND FORM's CARD OF 'abacuslaw06.TokensLimit'. -/
def tokensLimitUptoCard : Claim7 := { stood := { row := tokensLimitUptoRow, standIns := [], harness := (true, "65e841ebd4c6087009629f2d7aeae198bfb648f08eb54837e9999e4c91de0b00"), looks := false }, kinds := [], alts := [], laidByText := true, laidKinds := [.data], laidTests := true, laidLooks := .later }
def TokensLimitUptoCardSaid : Prop := Claim7.holds Tryd.pinned (.plain (OpenSpec.upto tokensLimitSpec)) tokensLimitUptoCard

/-- THE SECOND FORM's CARD OF 'abacuslaw06.TokensSteps'. -/
def tokensStepsUptoCard : Claim7 := { stood := { row := tokensStepsUptoRow, standIns := [], harness := (true, "65e841ebd4c6087009629f2d7aeae198bfb648f08eb54837e9999e4c91de0b00"), looks := false }, kinds := [], alts := [], laidByText := true, laidKinds := [.data], laidTests := true, laidLooks := .later }
def TokensStepsUptoCardSaid : Prop := Claim7.holds Tryd.pinned (.plain (OpenSpec.upto tokensStepsSpec)) tokensStepsUptoCard

/-- THE SECOND FORM's CARD OF 'abacuslaw06.TokensCalls'. -/
def tokensCallsUptoCard : Claim7 := { stood := { row := tokensCallsUptoRow, standIns := [], harness := (true, "65e841ebd4c6087009629f2d7aeae198bfb648f08eb54837e9999e4c91de0b00"), looks := false }, kinds := [], alts := [], laidByText := true, laidKinds := [.data], laidTests := true, laidLooks := .later }
def TokensCallsUptoCardSaid : Prop := Claim7.holds Tryd.pinned (.plain (OpenSpec.upto tokensCallsSpec)) tokensCallsUptoCard

/-- THE SECOND FORM's CARD OF 'abacuslaw06.TokensNil'. -/
def tokensNilUptoCard : Claim7 := { stood := { row := tokensNilUptoRow, standIns := [], harness := (true, "65e841ebd4c6087009629f2d7aeae198bfb648f08eb54837e9999e4c91de0b00"), looks := false }, kinds := [], alts := [], laidByText := true, laidKinds := [.data], laidTests := true, laidLooks := .later }
def TokensNilUptoCardSaid : Prop := Claim7.holds Tryd.pinned (.plain (OpenSpec.upto tokensNilSpec)) tokensNilUptoCard

/-- THE SECOND FORM's CARD OF 'abacuslaw06.TokensFree'. -/
def tokensFreeUptoCard : Claim7 := { stood := { row := tokensFreeUptoRow, standIns := [], harness := (true, "65e841ebd4c6087009629f2d7aeae198bfb648f08eb54837e9999e4c91de0b00"), looks := false }, kinds := [], alts := [], laidByText := true, laidKinds := [.data], laidTests := true, laidLooks := .later }
def TokensFreeUptoCardSaid : Prop := Claim7.holds Tryd.pinned (.plain (OpenSpec.upto tokensFreeSpec)) tokensFreeUptoCard

/-- THE SECOND FORM's CARD OF 'abacuslaw06.TokensPlain'. -/
def tokensPlainUptoCard : Claim7 := { stood := { row := tokensPlainUptoRow, standIns := [], harness := (true, "65e841ebd4c6087009629f2d7aeae198bfb648f08eb54837e9999e4c91de0b00"), looks := false }, kinds := [], alts := [], laidByText := true, laidKinds := [.data], laidTests := true, laidLooks := .later }
def TokensPlainUptoCardSaid : Prop := Claim7.holds Tryd.pinned (.plain (OpenSpec.upto tokensPlainSpec)) tokensPlainUptoCard
end Rows
end Go.Proofs.YthglajoihlaldaaDoor
