/-
  DERIVED. GIVEN WITH THE SEED: THE CARDS: each row of YtphbebcbbfbgpabDoorRows.lean that lists a variable, with what it lists TIED to the program's text (the seventh form; the later family's looks); each row that meets fmt, with fmt's text TOLD by the authors' own Lean function (tested against real Go, not proved from fmt's source: count such statements apart). THE CARD IS WHAT COUNTS. Prove the row's statement (the work); the ties are given (YtphbebcbbfbgpabDoorTie.lean); close each card by the builder's one call (the guide's Derived/Test/ToyasCard.lean, 'card_holds'). Laid BY PROGRAM, IN A SANDBOX (cutbox-door.mjs). By AI agents, Wed Nov 11 2026. No macro, syntax, notation, axiom, sorry.
-/
import Derived.Test.YtphbebcbbfbgpabDoorRows
import GoSem.ClaimSeven
namespace Go.Proofs.YtphbebcbbfbgpabDoor
namespace Rows

/-- THE TIED CARD OF 'saltcellartop.TopFlushed'. -/
def topFlushedCard : Claim7 := { stood := { row := topFlushedRow, standIns := [], harness := (true, "bbe65584c341e02bb3284567fa8c1813487721300dec2a0ca282c13b994a47c9"), looks := false }, kinds := [], alts := [], laidByText := true, laidKinds := [.data, .data, .data], laidTests := true, laidLooks := .later }
def TopFlushedCardSaid : Prop := Claim7.holds Tryd.pinned (.plain (OpenSpec.ofChange topFlushedSpec)) topFlushedCard

/-- THE TIED CARD OF 'saltcellartop.TopAll'. -/
def topAllCard : Claim7 := { stood := { row := topAllRow, standIns := [], harness := (true, "bbe65584c341e02bb3284567fa8c1813487721300dec2a0ca282c13b994a47c9"), looks := false }, kinds := [], alts := [], laidByText := true, laidKinds := [.data, .data, .data], laidTests := true, laidLooks := .later }
def TopAllCardSaid : Prop := Claim7.holds Tryd.pinned (.plain (OpenSpec.ofChange topAllSpec)) topAllCard

/-- THE TIED CARD OF 'saltcellarkeep.LogsBack'. -/
def logsBackCard : Claim7 := { stood := { row := logsBackRow, standIns := [], harness := (true, "bbe65584c341e02bb3284567fa8c1813487721300dec2a0ca282c13b994a47c9"), looks := false }, kinds := [], alts := [], laidByText := true, laidKinds := [.data, .data, .data], laidTests := true, laidLooks := .later }
def LogsBackCardSaid : Prop := Claim7.holds Tryd.pinned (.plain (OpenSpec.ofChange logsBackSpec)) logsBackCard

/-- THE TIED CARD OF 'saltcellarkeep.LogsSpoilt'. -/
def logsSpoiltCard : Claim7 := { stood := { row := logsSpoiltRow, standIns := [], harness := (true, "bbe65584c341e02bb3284567fa8c1813487721300dec2a0ca282c13b994a47c9"), looks := false }, kinds := [], alts := [], laidByText := true, laidKinds := [.data, .data, .data], laidTests := true, laidLooks := .later }
def LogsSpoiltCardSaid : Prop := Claim7.holds Tryd.pinned (.plain (OpenSpec.ofChange logsSpoiltSpec)) logsSpoiltCard

/-- THE SECOND FORM's CARD OF 'saltcellartop.TopFlushed'. -/
def topFlushedUptoCard : Claim7 := { stood := { row := topFlushedUptoRow, standIns := [], harness := (true, "bbe65584c341e02bb3284567fa8c1813487721300dec2a0ca282c13b994a47c9"), looks := false }, kinds := [], alts := [], laidByText := true, laidKinds := [.data, .data, .data], laidTests := true, laidLooks := .later }
def TopFlushedUptoCardSaid : Prop := Claim7.holds Tryd.pinned (.plain (OpenSpec.upto topFlushedSpec)) topFlushedUptoCard

/-- THE SECOND FORM's CARD OF 'saltcellartop.TopAll'. -/
def topAllUptoCard : Claim7 := { stood := { row := topAllUptoRow, standIns := [], harness := (true, "bbe65584c341e02bb3284567fa8c1813487721300dec2a0ca282c13b994a47c9"), looks := false }, kinds := [], alts := [], laidByText := true, laidKinds := [.data, .data, .data], laidTests := true, laidLooks := .later }
def TopAllUptoCardSaid : Prop := Claim7.holds Tryd.pinned (.plain (OpenSpec.upto topAllSpec)) topAllUptoCard

/-- THE SECOND FORM's CARD OF 'saltcellarkeep.LogsBack'. -/
def logsBackUptoCard : Claim7 := { stood := { row := logsBackUptoRow, standIns := [], harness := (true, "bbe65584c341e02bb3284567fa8c1813487721300dec2a0ca282c13b994a47c9"), looks := false }, kinds := [], alts := [], laidByText := true, laidKinds := [.data, .data, .data], laidTests := true, laidLooks := .later }
def LogsBackUptoCardSaid : Prop := Claim7.holds Tryd.pinned (.plain (OpenSpec.upto logsBackSpec)) logsBackUptoCard

/-- THE SECOND FORM's CARD OF 'saltcellarkeep.LogsSpoilt'. -/
def logsSpoiltUptoCard : Claim7 := { stood := { row := logsSpoiltUptoRow, standIns := [], harness := (true, "bbe65584c341e02bb3284567fa8c1813487721300dec2a0ca282c13b994a47c9"), looks := false }, kinds := [], alts := [], laidByText := true, laidKinds := [.data, .data, .data], laidTests := true, laidLooks := .later }
def LogsSpoiltUptoCardSaid : Prop := Claim7.holds Tryd.pinned (.plain (OpenSpec.upto logsSpoiltSpec)) logsSpoiltUptoCard
end Rows
end Go.Proofs.YtphbebcbbfbgpabDoor
