/-
  DERIVED. GIVEN WITH THE SEED: THE CARDS: each row of YtknmgcjhfleloaaDoorRows.lean that lists a variable, with what it lists TIED to the program's text (the seventh form; the later family's looks); each row that meets fmt, with fmt's text TOLD by the authors' own Lean function (tested against real Go, not proved from fmt's source: count such statements apart). THE CARD IS WHAT COUNTS. Prove the row's statement (the work); the ties are given (YtknmgcjhfleloaaDoorTie.lean); close each card by the builder's one call (the guide's Derived/Test/ToyasCard.lean, 'card_holds'). Laid BY PROGRAM, IN A SANDBOX (cutbox-door.mjs). By AI agents, Wed Nov 11 2026. No macro, syntax, notation, axiom, sorry.
-/
import Derived.Test.YtknmgcjhfleloaaDoorRows
import GoSem.ClaimSeven
namespace Go.Proofs.YtknmgcjhfleloaaDoor
namespace Rows

/-- THE TIED CARD OF 'drayagelaw35.GroupChains'. -/
def groupChainsCard : Claim7 := { stood := { row := groupChainsRow, standIns := [], harness := (true, "38ba0b0e6a0237120cab34a58aab72c7fe8c01c0f0cb830530d2e993c9338e5e"), looks := false }, kinds := [], alts := [], laidByText := true, laidKinds := [.data], laidTests := true, laidLooks := .later }
def GroupChainsCardSaid : Prop := Claim7.holds Tryd.pinned (.plain (OpenSpec.ofChange groupChainsSpec)) groupChainsCard

/-- THE TIED CARD OF 'drayagelaw35.GroupOrder'. -/
def groupOrderCard : Claim7 := { stood := { row := groupOrderRow, standIns := [], harness := (true, "38ba0b0e6a0237120cab34a58aab72c7fe8c01c0f0cb830530d2e993c9338e5e"), looks := false }, kinds := [], alts := [], laidByText := true, laidKinds := [.data], laidTests := true, laidLooks := .later }
def GroupOrderCardSaid : Prop := Claim7.holds Tryd.pinned (.plain (OpenSpec.ofChange groupOrderSpec)) groupOrderCard

/-- THE TIED CARD OF 'drayagelaw35.GroupOwn'. -/
def groupOwnCard : Claim7 := { stood := { row := groupOwnRow, standIns := [], harness := (true, "38ba0b0e6a0237120cab34a58aab72c7fe8c01c0f0cb830530d2e993c9338e5e"), looks := false }, kinds := [], alts := [], laidByText := true, laidKinds := [.data], laidTests := true, laidLooks := .later }
def GroupOwnCardSaid : Prop := Claim7.holds Tryd.pinned (.plain (OpenSpec.ofChange groupOwnSpec)) groupOwnCard

/-- THE SECOND FORM's CARD OF 'drayagelaw35.GroupChains'. -/
def groupChainsUptoCard : Claim7 := { stood := { row := groupChainsUptoRow, standIns := [], harness := (true, "38ba0b0e6a0237120cab34a58aab72c7fe8c01c0f0cb830530d2e993c9338e5e"), looks := false }, kinds := [], alts := [], laidByText := true, laidKinds := [.data], laidTests := true, laidLooks := .later }
def GroupChainsUptoCardSaid : Prop := Claim7.holds Tryd.pinned (.plain (OpenSpec.upto groupChainsSpec)) groupChainsUptoCard

/-- THE SECOND FORM's CARD OF 'drayagelaw35.GroupOrder'. -/
def groupOrderUptoCard : Claim7 := { stood := { row := groupOrderUptoRow, standIns := [], harness := (true, "38ba0b0e6a0237120cab34a58aab72c7fe8c01c0f0cb830530d2e993c9338e5e"), looks := false }, kinds := [], alts := [], laidByText := true, laidKinds := [.data], laidTests := true, laidLooks := .later }
def GroupOrderUptoCardSaid : Prop := Claim7.holds Tryd.pinned (.plain (OpenSpec.upto groupOrderSpec)) groupOrderUptoCard

/-- THE SECOND FORM's CARD OF 'drayagelaw35.GroupOwn'. -/
def groupOwnUptoCard : Claim7 := { stood := { row := groupOwnUptoRow, standIns := [], harness := (true, "38ba0b0e6a0237120cab34a58aab72c7fe8c01c0f0cb830530d2e993c9338e5e"), looks := false }, kinds := [], alts := [], laidByText := true, laidKinds := [.data], laidTests := true, laidLooks := .later }
def GroupOwnUptoCardSaid : Prop := Claim7.holds Tryd.pinned (.plain (OpenSpec.upto groupOwnSpec)) groupOwnUptoCard
end Rows
end Go.Proofs.YtknmgcjhfleloaaDoor
