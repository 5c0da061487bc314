/-
  DERIVED. GIVEN WITH THE SEED: THE CARDS: each row of YtfdgggikjnoghaaDoorRows.lean that lists a variable, with what it lists TIED to the program's text (the seventh form; the later family's looks); each row that meets fmt, with fmt's text TOLD by the authors' own Lean function (tested against real Go, not proved from fmt's source: count such statements apart). THE CARD IS WHAT COUNTS. Prove the row's statement (the work); the ties are given (YtfdgggikjnoghaaDoorTie.lean); close each card by the builder's one call (the guide's Derived/Test/ToyasCard.lean, 'card_holds'). Laid BY PROGRAM, IN A SANDBOX (cutbox-door.mjs). By AI agents, Wed Nov 11 2026. No macro, syntax, notation, axiom, sorry.
-/
import Derived.Test.YtfdgggikjnoghaaDoorRows
import GoSem.ClaimSeven
namespace Go.Proofs.YtfdgggikjnoghaaDoor
namespace Rows

/-- THE TIED CARD OF 'abacuslaw04.ShardsStill'. -/
def shardsStillCard : Claim7 := { stood := { row := shardsStillRow, standIns := [], harness := (true, "38dad92ef6a20c90510d979fb0e92e397f40e0a7db3f4f0ed4ff006153b75908"), looks := false }, kinds := [], alts := [], laidByText := true, laidKinds := [.data], laidTests := true, laidLooks := .later }
def ShardsStillCardSaid : Prop := Claim7.holds Tryd.pinned (.plain (OpenSpec.ofChange shardsStillSpec)) shardsStillCard

/-- THE TIED CARD OF 'abacuslaw04.ShardsBetween'. -/
def shardsBetweenCard : Claim7 := { stood := { row := shardsBetweenRow, standIns := [], harness := (true, "38dad92ef6a20c90510d979fb0e92e397f40e0a7db3f4f0ed4ff006153b75908"), looks := false }, kinds := [], alts := [], laidByText := true, laidKinds := [.data], laidTests := true, laidLooks := .later }
def ShardsBetweenCardSaid : Prop := Claim7.holds Tryd.pinned (.plain (OpenSpec.ofChange shardsBetweenSpec)) shardsBetweenCard

/-- THE TIED CARD OF 'abacuslaw04.ShardsSteps'. -/
def shardsStepsCard : Claim7 := { stood := { row := shardsStepsRow, standIns := [], harness := (true, "38dad92ef6a20c90510d979fb0e92e397f40e0a7db3f4f0ed4ff006153b75908"), looks := false }, kinds := [], alts := [], laidByText := true, laidKinds := [.data], laidTests := true, laidLooks := .later }
def ShardsStepsCardSaid : Prop := Claim7.holds Tryd.pinned (.plain (OpenSpec.ofChange shardsStepsSpec)) shardsStepsCard

/-- THE TIED CARD OF 'abacuslaw04.ShardsOwn'. -/
def shardsOwnCard : Claim7 := { stood := { row := shardsOwnRow, standIns := [], harness := (true, "38dad92ef6a20c90510d979fb0e92e397f40e0a7db3f4f0ed4ff006153b75908"), looks := false }, kinds := [], alts := [], laidByText := true, laidKinds := [.data], laidTests := true, laidLooks := .later }
def ShardsOwnCardSaid : Prop := Claim7.holds Tryd.pinned (.plain (OpenSpec.ofChange shardsOwnSpec)) shardsOwnCard

/-- THE TIED CARD OF 'abacuslaw04.ShardsCalls'. -/
def shardsCallsCard : Claim7 := { stood := { row := shardsCallsRow, standIns := [], harness := (true, "38dad92ef6a20c90510d979fb0e92e397f40e0a7db3f4f0ed4ff006153b75908"), looks := false }, kinds := [], alts := [], laidByText := true, laidKinds := [.data], laidTests := true, laidLooks := .later }
def ShardsCallsCardSaid : Prop := Claim7.holds Tryd.pinned (.plain (OpenSpec.ofChange shardsCallsSpec)) shardsCallsCard

/-- THE TIED CARD OF 'abacuslaw04.ShardsNil'. -/
def shardsNilCard : Claim7 := { stood := { row := shardsNilRow, standIns := [], harness := (true, "38dad92ef6a20c90510d979fb0e92e397f40e0a7db3f4f0ed4ff006153b75908"), looks := false }, kinds := [], alts := [], laidByText := true, laidKinds := [.data], laidTests := true, laidLooks := .later }
def ShardsNilCardSaid : Prop := Claim7.holds Tryd.pinned (.plain (OpenSpec.ofChange shardsNilSpec)) shardsNilCard

/-- THE TIED CARD OF 'abacuslaw04.ShardsPlain'. -/
def shardsPlainCard : Claim7 := { stood := { row := shardsPlainRow, standIns := [], harness := (true, "38dad92ef6a20c90510d979fb0e92e397f40e0a7db3f4f0ed4ff006153b75908"), looks := false }, kinds := [], alts := [], laidByText := true, laidKinds := [.data], laidTests := true, laidLooks := .later }
def ShardsPlainCardSaid : Prop := Claim7.holds Tryd.pinned (.plain (OpenSpec.ofChange shardsPlainSpec)) shardsPlainCard

/-- THE SECOND FORM's CARD OF 'abacuslaw04.ShardsStill'. -/
def shardsStillUptoCard : Claim7 := { stood := { row := shardsStillUptoRow, standIns := [], harness := (true, "38dad92ef6a20c90510d979fb0e92e397f40e0a7db3f4f0ed4ff006153b75908"), looks := false }, kinds := [], alts := [], laidByText := true, laidKinds := [.data], laidTests := true, laidLooks := .later }
def ShardsStillUptoCardSaid : Prop := Claim7.holds Tryd.pinned (.plain (OpenSpec.upto shardsStillSpec)) shardsStillUptoCard

/-- THE SECOND FORM's CARD OF 'abacuslaw04.ShardsBetween'. -/
def shardsBetweenUptoCard : Claim7 := { stood := { row := shardsBetweenUptoRow, standIns := [], harness := (true, "38dad92ef6a20c90510d979fb0e92e397f40e0a7db3f4f0ed4ff006153b75908"), looks := false }, kinds := [], alts := [], laidByText := true, laidKinds := [.data], laidTests := true, laidLooks := .later }
def ShardsBetweenUptoCardSaid : Prop := Claim7.holds Tryd.pinned (.plain (OpenSpec.upto shardsBetweenSpec)) shardsBetweenUptoCard

/-- THE SECOND FORM's CARD OF 'abacuslaw04.ShardsSteps'. -/
def shardsStepsUptoCard : Claim7 := { stood := { row := shardsStepsUptoRow, standIns := [], harness := (true, "38dad92ef6a20c90510d979fb0e92e397f40e0a7db3f4f0ed4ff006153b75908"), looks := false }, kinds := [], alts := [], laidByText := true, laidKinds := [.data], laidTests := true, laidLooks := .later }
def ShardsStepsUptoCardSaid : Prop := Claim7.holds Tryd.pinned (.plain (OpenSpec.upto shardsStepsSpec)) shardsStepsUptoCard

/-- THE SECOND FORM's CARD OF 'abacuslaw04.ShardsOwn'. -/
def shardsOwnUptoCard : Claim7 := { stood := { row := shardsOwnUptoRow, standIns := [], harness := (true, "38dad92ef6a20c90510d979fb0e92e397f40e0a7db3f4f0ed4ff006153b75908"), looks := false }, kinds := [], alts := [], laidByText := true, laidKinds := [.data], laidTests := true, laidLooks := .later }
def ShardsOwnUptoCardSaid : Prop := Claim7.holds Tryd.pinned (.plain (OpenSpec.upto shardsOwnSpec)) shardsOwnUptoCard

/-- THE SECOND FORM's CARD OF 'abacuslaw04.ShardsCalls'. -/
def shardsCallsUptoCard : Claim7 := { stood := { row := shardsCallsUptoRow, standIns := [], harness := (true, "38dad92ef6a20c90510d979fb0e92e397f40e0a7db3f4f0ed4ff006153b75908"), looks := false }, kinds := [], alts := [], laidByText := true, laidKinds := [.data], laidTests := true, laidLooks := .later }
def ShardsCallsUptoCardSaid : Prop := Claim7.holds Tryd.pinned (.plain (OpenSpec.upto shardsCallsSpec)) shardsCallsUptoCard

/-- THE SECOND FORM's CARD OF 'abacuslaw04.ShardsNil'. -/
def shardsNilUptoCard : Claim7 := { stood := { row := shardsNilUptoRow, standIns := [], harness := (true, "38dad92ef6a20c90510d979fb0e92e397f40e0a7db3f4f0ed4ff006153b75908"), looks := false }, kinds := [], alts := [], laidByText := true, laidKinds := [.data], laidTests := true, laidLooks := .later }
def ShardsNilUptoCardSaid : Prop := Claim7.holds Tryd.pinned (.plain (OpenSpec.upto shardsNilSpec)) shardsNilUptoCard

/-- THE SECOND FORM's CARD OF 'abacuslaw04.ShardsPlain'. -/
def shardsPlainUptoCard : Claim7 := { stood := { row := shardsPlainUptoRow, standIns := [], harness := (true, "38dad92ef6a20c90510d979fb0e92e397f40e0a7db3f4f0ed4ff006153b75908"), looks := false }, kinds := [], alts := [], laidByText := true, laidKinds := [.data], laidTests := true, laidLooks := .later }
def ShardsPlainUptoCardSaid : Prop := Claim7.holds Tryd.pinned (.plain (OpenSpec.upto shardsPlainSpec)) shardsPlainUptoCard
end Rows
end Go.Proofs.YtfdgggikjnoghaaDoor
