/-
  DERIVED. GIVEN WITH THE SEED: THE CARDS: each row of YtjhnabdcmfjeoaaGreatDoorRows.lean that lists a variable, with what it lists TIED to the program's text (the seventh form; the later family's looks); each row that meets fmt, with fmt's text TOLD by the authors' own Lean function (tested against real Go, not proved from fmt's source: count such statements apart). THE CARD IS WHAT COUNTS. Prove the row's statement (the work); the ties are given (YtjhnabdcmfjeoaaGreatDoorTie.lean); close each card by the builder's one call (the guide's Derived/Test/ToyasCard.lean, 'card_holds'). Laid BY PROGRAM, IN A SANDBOX (cutbox-door.mjs). By AI agents, Wed Nov 11 2026. No macro, syntax, notation, axiom, sorry.
-/
import Derived.Test.YtjhnabdcmfjeoaaGreatDoorRows
import GoSem.ClaimSeven
namespace Go.Proofs.YtjhnabdcmfjeoaaGreatDoor
namespace Rows

/-- THE TIED CARD OF 'barbicanlaw26.StoreCommits'. -/
def storeCommitsCard : Claim7 := { stood := { row := storeCommitsRow, standIns := [], harness := (true, "2fe550da1be5c556e34f3c1d0a6c8f679446100e15d82409cdbbd2902087980e"), looks := true }, kinds := [], alts := [], laidByText := true, laidKinds := [.handle], laidTests := true, laidLooks := .later }
def StoreCommitsCardSaid : Prop := Claim7.holds Tryz.pinned (.plain (OpenSpec.ofChange storeCommitsSpec)) storeCommitsCard

/-- THE TIED CARD OF 'barbicanlaw26.StoreBack'. -/
def storeBackCard : Claim7 := { stood := { row := storeBackRow, standIns := [], harness := (true, "2fe550da1be5c556e34f3c1d0a6c8f679446100e15d82409cdbbd2902087980e"), looks := true }, kinds := [], alts := [], laidByText := true, laidKinds := [.handle], laidTests := true, laidLooks := .later }
def StoreBackCardSaid : Prop := Claim7.holds Tryz.pinned (.plain (OpenSpec.ofChange storeBackSpec)) storeBackCard

/-- THE SECOND FORM's CARD OF 'barbicanlaw26.StoreCommits'. -/
def storeCommitsUptoCard : Claim7 := { stood := { row := storeCommitsUptoRow, standIns := [], harness := (true, "2fe550da1be5c556e34f3c1d0a6c8f679446100e15d82409cdbbd2902087980e"), looks := true }, kinds := [], alts := [], laidByText := true, laidKinds := [.handle], laidTests := true, laidLooks := .later }
def StoreCommitsUptoCardSaid : Prop := Claim7.holds Tryz.pinned (.plain (OpenSpec.upto storeCommitsSpec)) storeCommitsUptoCard

/-- THE SECOND FORM's CARD OF 'barbicanlaw26.StoreBack'. -/
def storeBackUptoCard : Claim7 := { stood := { row := storeBackUptoRow, standIns := [], harness := (true, "2fe550da1be5c556e34f3c1d0a6c8f679446100e15d82409cdbbd2902087980e"), looks := true }, kinds := [], alts := [], laidByText := true, laidKinds := [.handle], laidTests := true, laidLooks := .later }
def StoreBackUptoCardSaid : Prop := Claim7.holds Tryz.pinned (.plain (OpenSpec.upto storeBackSpec)) storeBackUptoCard
end Rows
end Go.Proofs.YtjhnabdcmfjeoaaGreatDoor
