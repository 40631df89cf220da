/-
  DERIVED. GIVEN WITH THE SEED: THE CARDS: each row of YtmlmbampgbiaeaaDoorRows.lean that lists a variable, with what it lists TIED to the program's text (the seventh form; the later family's looks); each row that meets fmt, with fmt's text TOLD by the authors' own Lean function (tested against real Go, not proved from fmt's source: count such statements apart). THE CARD IS WHAT COUNTS. Prove the row's statement (the work); the ties are given (YtmlmbampgbiaeaaDoorTie.lean); close each card by the builder's one call (the guide's Derived/Test/ToyasCard.lean, 'card_holds'). Laid BY PROGRAM, IN A SANDBOX (cutbox-door.mjs). By AI agents, Wed Nov 11 2026. No macro, syntax, notation, axiom, sorry.
-/
import Derived.Test.YtmlmbampgbiaeaaDoorRows
import GoSem.ClaimSeven
namespace Go.Proofs.YtmlmbampgbiaeaaDoor
namespace Rows

/-- THE TIED CARD OF 'stratalaw1.WireAgain'. -/
def wireAgainCard : Claim7 := { stood := { row := wireAgainRow, standIns := [], harness := (true, "adcc4c194f564727e954e428506bfebf950add65353c3a2522b4efda83ca098f"), looks := false }, kinds := [], alts := [], laidByText := true, laidKinds := [.data], laidTests := true, laidLooks := .later }
def WireAgainCardSaid : Prop := Claim7.holds Tryd.pinned (.plain (OpenSpec.ofChange wireAgainSpec)) wireAgainCard

/-- THE TIED CARD OF 'stratalaw5.BlockLent'. -/
def blockLentCard : Claim7 := { stood := { row := blockLentRow, standIns := [], harness := (true, "adcc4c194f564727e954e428506bfebf950add65353c3a2522b4efda83ca098f"), looks := false }, kinds := [], alts := [], laidByText := true, laidKinds := [.data], laidTests := true, laidLooks := .later }
def BlockLentCardSaid : Prop := Claim7.holds Tryd.pinned (.plain (OpenSpec.ofChange blockLentSpec)) blockLentCard

/-- THE SECOND FORM's CARD OF 'stratalaw1.WireAgain'. -/
def wireAgainUptoCard : Claim7 := { stood := { row := wireAgainUptoRow, standIns := [], harness := (true, "adcc4c194f564727e954e428506bfebf950add65353c3a2522b4efda83ca098f"), looks := false }, kinds := [], alts := [], laidByText := true, laidKinds := [.data], laidTests := true, laidLooks := .later }
def WireAgainUptoCardSaid : Prop := Claim7.holds Tryd.pinned (.plain (OpenSpec.upto wireAgainSpec)) wireAgainUptoCard

/-- THE SECOND FORM's CARD OF 'stratalaw5.BlockLent'. -/
def blockLentUptoCard : Claim7 := { stood := { row := blockLentUptoRow, standIns := [], harness := (true, "adcc4c194f564727e954e428506bfebf950add65353c3a2522b4efda83ca098f"), looks := false }, kinds := [], alts := [], laidByText := true, laidKinds := [.data], laidTests := true, laidLooks := .later }
def BlockLentUptoCardSaid : Prop := Claim7.holds Tryd.pinned (.plain (OpenSpec.upto blockLentSpec)) blockLentUptoCard
end Rows
end Go.Proofs.YtmlmbampgbiaeaaDoor
