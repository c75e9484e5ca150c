/-
  DERIVED. GIVEN WITH THE SEED: THE CARDS: each row of YtefcmijobbgpbaaGreatDoorRows.lean that lists a variable, with what it lists TIED to the program's text (the seventh form; the later family's looks); each row that meets fmt, with fmt's text TOLD by the authors' own Lean function (tested against real Go, not proved from fmt's source: count such statements apart). THE CARD IS WHAT COUNTS. Prove the row's statement (the work); the ties are given (YtefcmijobbgpbaaGreatDoorTie.lean); close each card by the builder's one call (the guide's Derived/Test/ToyasCard.lean, 'card_holds'). Laid BY PROGRAM, IN A SANDBOX (cutbox-door.mjs). By AI agents, Wed Nov 11 2026. No macro, syntax, notation, axiom, sorry.
-/
import Derived.Test.YtefcmijobbgpbaaGreatDoorRows
import GoSem.ClaimSeven
namespace Go.Proofs.YtefcmijobbgpbaaGreatDoor
namespace Rows

/-- THE TIED CARD OF 'weaverlaw11.ExprChecks'. -/
def exprChecksCard : Claim7 := { stood := { row := exprChecksRow, standIns := [], harness := (true, "a33fc5f0fcc8dd0b45d1e5e3a69d6aa33c02bf29a009026efe44b8792b008dda"), looks := true }, kinds := [], alts := [], laidByText := true, laidKinds := [.data, .data, .data, .sentinel, .sentinel, .listed, .data, .data], laidTests := true, laidLooks := .later }
def ExprChecksCardSaid : Prop := Claim7.holds Tryz.pinned (.plain (OpenSpec.ofChange exprChecksSpec)) exprChecksCard

/-- THE TIED CARD OF 'weaverlaw11.ExprHolds'. -/
def exprHoldsCard : Claim7 := { stood := { row := exprHoldsRow, standIns := [], harness := (true, "a33fc5f0fcc8dd0b45d1e5e3a69d6aa33c02bf29a009026efe44b8792b008dda"), looks := true }, kinds := [], alts := [], laidByText := true, laidKinds := [.data, .data, .data, .sentinel, .sentinel, .listed, .data, .data], laidTests := true, laidLooks := .later }
def ExprHoldsCardSaid : Prop := Claim7.holds Tryz.pinned (.plain (OpenSpec.ofChange exprHoldsSpec)) exprHoldsCard

/-- THE TIED CARD OF 'weaverlaw11.ExprSums'. -/
def exprSumsCard : Claim7 := { stood := { row := exprSumsRow, standIns := [], harness := (true, "a33fc5f0fcc8dd0b45d1e5e3a69d6aa33c02bf29a009026efe44b8792b008dda"), looks := true }, kinds := [], alts := [], laidByText := true, laidKinds := [.data, .data, .data, .sentinel, .sentinel, .listed, .data, .data], laidTests := true, laidLooks := .later }
def ExprSumsCardSaid : Prop := Claim7.holds Tryz.pinned (.plain (OpenSpec.ofChange exprSumsSpec)) exprSumsCard

/-- THE TIED CARD OF 'weaverlaw11.ExprBinds'. -/
def exprBindsCard : Claim7 := { stood := { row := exprBindsRow, standIns := [], harness := (true, "a33fc5f0fcc8dd0b45d1e5e3a69d6aa33c02bf29a009026efe44b8792b008dda"), looks := true }, kinds := [], alts := [], laidByText := true, laidKinds := [.data, .data, .data, .sentinel, .sentinel, .listed, .data, .data], laidTests := true, laidLooks := .later }
def ExprBindsCardSaid : Prop := Claim7.holds Tryz.pinned (.plain (OpenSpec.ofChange exprBindsSpec)) exprBindsCard

/-- THE TIED CARD OF 'weaverlaw11.ExprTruths'. -/
def exprTruthsCard : Claim7 := { stood := { row := exprTruthsRow, standIns := [], harness := (true, "a33fc5f0fcc8dd0b45d1e5e3a69d6aa33c02bf29a009026efe44b8792b008dda"), looks := true }, kinds := [], alts := [], laidByText := true, laidKinds := [.data, .data, .data, .sentinel, .sentinel, .listed, .data, .data], laidTests := true, laidLooks := .later }
def ExprTruthsCardSaid : Prop := Claim7.holds Tryz.pinned (.plain (OpenSpec.ofChange exprTruthsSpec)) exprTruthsCard

/-- THE TIED CARD OF 'weaverlaw11.ExprNeeds'. -/
def exprNeedsCard : Claim7 := { stood := { row := exprNeedsRow, standIns := [], harness := (true, "a33fc5f0fcc8dd0b45d1e5e3a69d6aa33c02bf29a009026efe44b8792b008dda"), looks := true }, kinds := [], alts := [], laidByText := true, laidKinds := [.data, .data, .data, .sentinel, .sentinel, .listed, .data, .data], laidTests := true, laidLooks := .later }
def ExprNeedsCardSaid : Prop := Claim7.holds Tryz.pinned (.plain (OpenSpec.ofChange exprNeedsSpec)) exprNeedsCard

/-- THE SECOND FORM's CARD OF 'weaverlaw11.ExprChecks'. -/
def exprChecksUptoCard : Claim7 := { stood := { row := exprChecksUptoRow, standIns := [], harness := (true, "a33fc5f0fcc8dd0b45d1e5e3a69d6aa33c02bf29a009026efe44b8792b008dda"), looks := true }, kinds := [], alts := [], laidByText := true, laidKinds := [.data, .data, .data, .sentinel, .sentinel, .listed, .data, .data], laidTests := true, laidLooks := .later }
def ExprChecksUptoCardSaid : Prop := Claim7.holds Tryz.pinned (.plain (OpenSpec.upto exprChecksSpec)) exprChecksUptoCard

/-- THE SECOND FORM's CARD OF 'weaverlaw11.ExprHolds'. -/
def exprHoldsUptoCard : Claim7 := { stood := { row := exprHoldsUptoRow, standIns := [], harness := (true, "a33fc5f0fcc8dd0b45d1e5e3a69d6aa33c02bf29a009026efe44b8792b008dda"), looks := true }, kinds := [], alts := [], laidByText := true, laidKinds := [.data, .data, .data, .sentinel, .sentinel, .listed, .data, .data], laidTests := true, laidLooks := .later }
def ExprHoldsUptoCardSaid : Prop := Claim7.holds Tryz.pinned (.plain (OpenSpec.upto exprHoldsSpec)) exprHoldsUptoCard

/-- THE SECOND FORM's CARD OF 'weaverlaw11.ExprSums'. -/
def exprSumsUptoCard : Claim7 := { stood := { row := exprSumsUptoRow, standIns := [], harness := (true, "a33fc5f0fcc8dd0b45d1e5e3a69d6aa33c02bf29a009026efe44b8792b008dda"), looks := true }, kinds := [], alts := [], laidByText := true, laidKinds := [.data, .data, .data, .sentinel, .sentinel, .listed, .data, .data], laidTests := true, laidLooks := .later }
def ExprSumsUptoCardSaid : Prop := Claim7.holds Tryz.pinned (.plain (OpenSpec.upto exprSumsSpec)) exprSumsUptoCard

/-- THE SECOND FORM's CARD OF 'weaverlaw11.ExprBinds'. -/
def exprBindsUptoCard : Claim7 := { stood := { row := exprBindsUptoRow, standIns := [], harness := (true, "a33fc5f0fcc8dd0b45d1e5e3a69d6aa33c02bf29a009026efe44b8792b008dda"), looks := true }, kinds := [], alts := [], laidByText := true, laidKinds := [.data, .data, .data, .sentinel, .sentinel, .listed, .data, .data], laidTests := true, laidLooks := .later }
def ExprBindsUptoCardSaid : Prop := Claim7.holds Tryz.pinned (.plain (OpenSpec.upto exprBindsSpec)) exprBindsUptoCard

/-- THE SECOND FORM's CARD OF 'weaverlaw11.ExprTruths'. -/
def exprTruthsUptoCard : Claim7 := { stood := { row := exprTruthsUptoRow, standIns := [], harness := (true, "a33fc5f0fcc8dd0b45d1e5e3a69d6aa33c02bf29a009026efe44b8792b008dda"), looks := true }, kinds := [], alts := [], laidByText := true, laidKinds := [.data, .data, .data, .sentinel, .sentinel, .listed, .data, .data], laidTests := true, laidLooks := .later }
def ExprTruthsUptoCardSaid : Prop := Claim7.holds Tryz.pinned (.plain (OpenSpec.upto exprTruthsSpec)) exprTruthsUptoCard

/-- THE SECOND FORM's CARD OF 'weaverlaw11.ExprNeeds'. -/
def exprNeedsUptoCard : Claim7 := { stood := { row := exprNeedsUptoRow, standIns := [], harness := (true, "a33fc5f0fcc8dd0b45d1e5e3a69d6aa33c02bf29a009026efe44b8792b008dda"), looks := true }, kinds := [], alts := [], laidByText := true, laidKinds := [.data, .data, .data, .sentinel, .sentinel, .listed, .data, .data], laidTests := true, laidLooks := .later }
def ExprNeedsUptoCardSaid : Prop := Claim7.holds Tryz.pinned (.plain (OpenSpec.upto exprNeedsSpec)) exprNeedsUptoCard
end Rows
end Go.Proofs.YtefcmijobbgpbaaGreatDoor
