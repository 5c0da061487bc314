/-
  DERIVED. GIVEN WITH THE SEED: THE CARDS: each row of YtmihblocomnfjaaDoorRows.lean that lists a variable, with what it lists TIED to the program's text (the seventh form; the later family's looks); each row that meets fmt, with fmt's text TOLD by the authors' own Lean function (tested against real Go, not proved from fmt's source: count such statements apart). THE CARD IS WHAT COUNTS. Prove the row's statement (the work); the ties are given (YtmihblocomnfjaaDoorTie.lean); close each card by the builder's one call (the guide's Derived/Test/ToyasCard.lean, 'card_holds'). Laid BY PROGRAM, IN A SANDBOX (cutbox-door.mjs). By AI agents, Wed Nov 11 2026. No macro, syntax, notation, axiom, sorry.
-/
import Derived.Test.YtmihblocomnfjaaDoorRows
import GoSem.ClaimSeven
namespace Go.Proofs.YtmihblocomnfjaaDoor
namespace Rows

/-- THE TIED CARD OF 'abacuslaw14.SnapSteps'. -/
def snapStepsCard : Claim7 := { stood := { row := snapStepsRow, standIns := [], harness := (true, "d25d5dced223a7debe17d02e244bab0406013ef7c267afdd9aaa6b20197e1610"), looks := false }, kinds := [], alts := [], laidByText := true, laidKinds := [.data], laidTests := true, laidLooks := .later }
def SnapStepsCardSaid : Prop := Claim7.holds Tryd.pinned (.plain (OpenSpec.ofChange snapStepsSpec)) snapStepsCard

/-- THE TIED CARD OF 'abacuslaw14.SnapTrue'. -/
def snapTrueCard : Claim7 := { stood := { row := snapTrueRow, standIns := [], harness := (true, "d25d5dced223a7debe17d02e244bab0406013ef7c267afdd9aaa6b20197e1610"), looks := false }, kinds := [], alts := [], laidByText := true, laidKinds := [.data], laidTests := true, laidLooks := .later }
def SnapTrueCardSaid : Prop := Claim7.holds Tryd.pinned (.plain (OpenSpec.ofChange snapTrueSpec)) snapTrueCard

/-- THE TIED CARD OF 'abacuslaw14.SnapQuiet'. -/
def snapQuietCard : Claim7 := { stood := { row := snapQuietRow, standIns := [], harness := (true, "d25d5dced223a7debe17d02e244bab0406013ef7c267afdd9aaa6b20197e1610"), looks := false }, kinds := [], alts := [], laidByText := true, laidKinds := [.data], laidTests := true, laidLooks := .later }
def SnapQuietCardSaid : Prop := Claim7.holds Tryd.pinned (.plain (OpenSpec.ofChange snapQuietSpec)) snapQuietCard

/-- THE TIED CARD OF 'abacuslaw14.SnapLost'. -/
def snapLostCard : Claim7 := { stood := { row := snapLostRow, standIns := [], harness := (true, "d25d5dced223a7debe17d02e244bab0406013ef7c267afdd9aaa6b20197e1610"), looks := false }, kinds := [], alts := [], laidByText := true, laidKinds := [.data], laidTests := true, laidLooks := .later }
def SnapLostCardSaid : Prop := Claim7.holds Tryd.pinned (.plain (OpenSpec.ofChange snapLostSpec)) snapLostCard

/-- THE TIED CARD OF 'abacuslaw14.SnapOwn'. -/
def snapOwnCard : Claim7 := { stood := { row := snapOwnRow, standIns := [], harness := (true, "d25d5dced223a7debe17d02e244bab0406013ef7c267afdd9aaa6b20197e1610"), looks := false }, kinds := [], alts := [], laidByText := true, laidKinds := [.data], laidTests := true, laidLooks := .later }
def SnapOwnCardSaid : Prop := Claim7.holds Tryd.pinned (.plain (OpenSpec.ofChange snapOwnSpec)) snapOwnCard

/-- THE TIED CARD OF 'abacuslaw14.SnapCalls'. -/
def snapCallsCard : Claim7 := { stood := { row := snapCallsRow, standIns := [], harness := (true, "d25d5dced223a7debe17d02e244bab0406013ef7c267afdd9aaa6b20197e1610"), looks := false }, kinds := [], alts := [], laidByText := true, laidKinds := [.data], laidTests := true, laidLooks := .later }
def SnapCallsCardSaid : Prop := Claim7.holds Tryd.pinned (.plain (OpenSpec.ofChange snapCallsSpec)) snapCallsCard

/-- THE TIED CARD OF 'abacuslaw14.SnapNil'. -/
def snapNilCard : Claim7 := { stood := { row := snapNilRow, standIns := [], harness := (true, "d25d5dced223a7debe17d02e244bab0406013ef7c267afdd9aaa6b20197e1610"), looks := false }, kinds := [], alts := [], laidByText := true, laidKinds := [.data], laidTests := true, laidLooks := .later }
def SnapNilCardSaid : Prop := Claim7.holds Tryd.pinned (.plain (OpenSpec.ofChange snapNilSpec)) snapNilCard

/-- THE SECOND FORM's CARD OF 'abacuslaw14.SnapSteps'. -/
def snapStepsUptoCard : Claim7 := { stood := { row := snapStepsUptoRow, standIns := [], harness := (true, "d25d5dced223a7debe17d02e244bab0406013ef7c267afdd9aaa6b20197e1610"), looks := false }, kinds := [], alts := [], laidByText := true, laidKinds := [.data], laidTests := true, laidLooks := .later }
def SnapStepsUptoCardSaid : Prop := Claim7.holds Tryd.pinned (.plain (OpenSpec.upto snapStepsSpec)) snapStepsUptoCard

/-- THE SECOND FORM's CARD OF 'abacuslaw14.SnapTrue'. -/
def snapTrueUptoCard : Claim7 := { stood := { row := snapTrueUptoRow, standIns := [], harness := (true, "d25d5dced223a7debe17d02e244bab0406013ef7c267afdd9aaa6b20197e1610"), looks := false }, kinds := [], alts := [], laidByText := true, laidKinds := [.data], laidTests := true, laidLooks := .later }
def SnapTrueUptoCardSaid : Prop := Claim7.holds Tryd.pinned (.plain (OpenSpec.upto snapTrueSpec)) snapTrueUptoCard

/-- THE SECOND FORM's CARD OF 'abacuslaw14.SnapQuiet'. -/
def snapQuietUptoCard : Claim7 := { stood := { row := snapQuietUptoRow, standIns := [], harness := (true, "d25d5dced223a7debe17d02e244bab0406013ef7c267afdd9aaa6b20197e1610"), looks := false }, kinds := [], alts := [], laidByText := true, laidKinds := [.data], laidTests := true, laidLooks := .later }
def SnapQuietUptoCardSaid : Prop := Claim7.holds Tryd.pinned (.plain (OpenSpec.upto snapQuietSpec)) snapQuietUptoCard

/-- THE SECOND FORM's CARD OF 'abacuslaw14.SnapLost'. -/
def snapLostUptoCard : Claim7 := { stood := { row := snapLostUptoRow, standIns := [], harness := (true, "d25d5dced223a7debe17d02e244bab0406013ef7c267afdd9aaa6b20197e1610"), looks := false }, kinds := [], alts := [], laidByText := true, laidKinds := [.data], laidTests := true, laidLooks := .later }
def SnapLostUptoCardSaid : Prop := Claim7.holds Tryd.pinned (.plain (OpenSpec.upto snapLostSpec)) snapLostUptoCard

/-- THE SECOND FORM's CARD OF 'abacuslaw14.SnapOwn'. -/
def snapOwnUptoCard : Claim7 := { stood := { row := snapOwnUptoRow, standIns := [], harness := (true, "d25d5dced223a7debe17d02e244bab0406013ef7c267afdd9aaa6b20197e1610"), looks := false }, kinds := [], alts := [], laidByText := true, laidKinds := [.data], laidTests := true, laidLooks := .later }
def SnapOwnUptoCardSaid : Prop := Claim7.holds Tryd.pinned (.plain (OpenSpec.upto snapOwnSpec)) snapOwnUptoCard

/-- THE SECOND FORM's CARD OF 'abacuslaw14.SnapCalls'. -/
def snapCallsUptoCard : Claim7 := { stood := { row := snapCallsUptoRow, standIns := [], harness := (true, "d25d5dced223a7debe17d02e244bab0406013ef7c267afdd9aaa6b20197e1610"), looks := false }, kinds := [], alts := [], laidByText := true, laidKinds := [.data], laidTests := true, laidLooks := .later }
def SnapCallsUptoCardSaid : Prop := Claim7.holds Tryd.pinned (.plain (OpenSpec.upto snapCallsSpec)) snapCallsUptoCard

/-- THE SECOND FORM's CARD OF 'abacuslaw14.SnapNil'. -/
def snapNilUptoCard : Claim7 := { stood := { row := snapNilUptoRow, standIns := [], harness := (true, "d25d5dced223a7debe17d02e244bab0406013ef7c267afdd9aaa6b20197e1610"), looks := false }, kinds := [], alts := [], laidByText := true, laidKinds := [.data], laidTests := true, laidLooks := .later }
def SnapNilUptoCardSaid : Prop := Claim7.holds Tryd.pinned (.plain (OpenSpec.upto snapNilSpec)) snapNilUptoCard
end Rows
end Go.Proofs.YtmihblocomnfjaaDoor
