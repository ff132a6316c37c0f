/-
  DERIVED. GIVEN WITH THE SEED: THE CARDS: each row of YtikdjbcfckjccaaDoorRows.lean that lists a variable, with what it lists TIED to the program's text (the seventh form; the later family's looks); each row that meets fmt, with fmt's text TOLD by the authors' own Lean function (tested against real Go, not proved from fmt's source: count such statements apart). THE CARD IS WHAT COUNTS. Prove the row's statement (the work); the ties are given (YtikdjbcfckjccaaDoorTie.lean); close each card by the builder's one call (the guide's Derived/Test/ToyasCard.lean, 'card_holds'). Laid BY PROGRAM, IN A SANDBOX (cutbox-door.mjs). By AI agents, Wed Nov 11 2026. No macro, syntax, notation, axiom, sorry.
-/
import Derived.Test.YtikdjbcfckjccaaDoorRows
import GoSem.ClaimSeven
namespace Go.Proofs.YtikdjbcfckjccaaDoor
namespace Rows

/-- THE TIED CARD OF 'honeycomblaw12.RecordBytes'. -/
def recordBytesCard : Claim7 := { stood := { row := recordBytesRow, standIns := [], harness := (true, "dedb561bcb9b8aa0a51463df3e59d7518d63224945ac6cccdd34693f7ebbf828"), looks := false }, kinds := [], alts := [], laidByText := true, laidKinds := [.listed, .data], laidTests := true, laidLooks := .later }
def RecordBytesCardSaid : Prop := Claim7.holds Tryd.pinned (.plain (OpenSpec.ofChange recordBytesSpec)) recordBytesCard

/-- THE TIED CARD OF 'honeycomblaw12.RecordSizes'. -/
def recordSizesCard : Claim7 := { stood := { row := recordSizesRow, standIns := [], harness := (true, "dedb561bcb9b8aa0a51463df3e59d7518d63224945ac6cccdd34693f7ebbf828"), looks := false }, kinds := [], alts := [], laidByText := true, laidKinds := [.listed, .data], laidTests := true, laidLooks := .later }
def RecordSizesCardSaid : Prop := Claim7.holds Tryd.pinned (.plain (OpenSpec.ofChange recordSizesSpec)) recordSizesCard

/-- THE TIED CARD OF 'honeycomblaw12.RecordNames'. -/
def recordNamesCard : Claim7 := { stood := { row := recordNamesRow, standIns := [], harness := (true, "dedb561bcb9b8aa0a51463df3e59d7518d63224945ac6cccdd34693f7ebbf828"), looks := false }, kinds := [], alts := [], laidByText := true, laidKinds := [.listed, .data], laidTests := true, laidLooks := .later }
def RecordNamesCardSaid : Prop := Claim7.holds Tryd.pinned (.plain (OpenSpec.ofChange recordNamesSpec)) recordNamesCard

/-- THE TIED CARD OF 'honeycomblaw12.RecordTurned'. -/
def recordTurnedCard : Claim7 := { stood := { row := recordTurnedRow, standIns := [], harness := (true, "dedb561bcb9b8aa0a51463df3e59d7518d63224945ac6cccdd34693f7ebbf828"), looks := false }, kinds := [], alts := [], laidByText := true, laidKinds := [.listed, .data], laidTests := true, laidLooks := .later }
def RecordTurnedCardSaid : Prop := Claim7.holds Tryd.pinned (.plain (OpenSpec.ofChange recordTurnedSpec)) recordTurnedCard

/-- THE TIED CARD OF 'honeycomblaw12.RecordEdges'. -/
def recordEdgesCard : Claim7 := { stood := { row := recordEdgesRow, standIns := [], harness := (true, "dedb561bcb9b8aa0a51463df3e59d7518d63224945ac6cccdd34693f7ebbf828"), looks := false }, kinds := [], alts := [], laidByText := true, laidKinds := [.listed, .data], laidTests := true, laidLooks := .later }
def RecordEdgesCardSaid : Prop := Claim7.holds Tryd.pinned (.plain (OpenSpec.ofChange recordEdgesSpec)) recordEdgesCard

/-- THE TIED CARD OF 'honeycomblaw12.RecordMany'. -/
def recordManyCard : Claim7 := { stood := { row := recordManyRow, standIns := [], harness := (true, "dedb561bcb9b8aa0a51463df3e59d7518d63224945ac6cccdd34693f7ebbf828"), looks := false }, kinds := [], alts := [], laidByText := true, laidKinds := [.listed, .data], laidTests := true, laidLooks := .later }
def RecordManyCardSaid : Prop := Claim7.holds Tryd.pinned (.plain (OpenSpec.ofChange recordManySpec)) recordManyCard

/-- THE SECOND FORM's CARD OF 'honeycomblaw12.RecordBytes'. -/
def recordBytesUptoCard : Claim7 := { stood := { row := recordBytesUptoRow, standIns := [], harness := (true, "dedb561bcb9b8aa0a51463df3e59d7518d63224945ac6cccdd34693f7ebbf828"), looks := false }, kinds := [], alts := [], laidByText := true, laidKinds := [.listed, .data], laidTests := true, laidLooks := .later }
def RecordBytesUptoCardSaid : Prop := Claim7.holds Tryd.pinned (.plain (OpenSpec.upto recordBytesSpec)) recordBytesUptoCard

/-- THE SECOND FORM's CARD OF 'honeycomblaw12.RecordSizes'. -/
def recordSizesUptoCard : Claim7 := { stood := { row := recordSizesUptoRow, standIns := [], harness := (true, "dedb561bcb9b8aa0a51463df3e59d7518d63224945ac6cccdd34693f7ebbf828"), looks := false }, kinds := [], alts := [], laidByText := true, laidKinds := [.listed, .data], laidTests := true, laidLooks := .later }
def RecordSizesUptoCardSaid : Prop := Claim7.holds Tryd.pinned (.plain (OpenSpec.upto recordSizesSpec)) recordSizesUptoCard

/-- THE SECOND FORM's CARD OF 'honeycomblaw12.RecordNames'. -/
def recordNamesUptoCard : Claim7 := { stood := { row := recordNamesUptoRow, standIns := [], harness := (true, "dedb561bcb9b8aa0a51463df3e59d7518d63224945ac6cccdd34693f7ebbf828"), looks := false }, kinds := [], alts := [], laidByText := true, laidKinds := [.listed, .data], laidTests := true, laidLooks := .later }
def RecordNamesUptoCardSaid : Prop := Claim7.holds Tryd.pinned (.plain (OpenSpec.upto recordNamesSpec)) recordNamesUptoCard

/-- THE SECOND FORM's CARD OF 'honeycomblaw12.RecordTurned'. -/
def recordTurnedUptoCard : Claim7 := { stood := { row := recordTurnedUptoRow, standIns := [], harness := (true, "dedb561bcb9b8aa0a51463df3e59d7518d63224945ac6cccdd34693f7ebbf828"), looks := false }, kinds := [], alts := [], laidByText := true, laidKinds := [.listed, .data], laidTests := true, laidLooks := .later }
def RecordTurnedUptoCardSaid : Prop := Claim7.holds Tryd.pinned (.plain (OpenSpec.upto recordTurnedSpec)) recordTurnedUptoCard

/-- THE SECOND FORM's CARD OF 'honeycomblaw12.RecordEdges'. -/
def recordEdgesUptoCard : Claim7 := { stood := { row := recordEdgesUptoRow, standIns := [], harness := (true, "dedb561bcb9b8aa0a51463df3e59d7518d63224945ac6cccdd34693f7ebbf828"), looks := false }, kinds := [], alts := [], laidByText := true, laidKinds := [.listed, .data], laidTests := true, laidLooks := .later }
def RecordEdgesUptoCardSaid : Prop := Claim7.holds Tryd.pinned (.plain (OpenSpec.upto recordEdgesSpec)) recordEdgesUptoCard

/-- THE SECOND FORM's CARD OF 'honeycomblaw12.RecordMany'. -/
def recordManyUptoCard : Claim7 := { stood := { row := recordManyUptoRow, standIns := [], harness := (true, "dedb561bcb9b8aa0a51463df3e59d7518d63224945ac6cccdd34693f7ebbf828"), looks := false }, kinds := [], alts := [], laidByText := true, laidKinds := [.listed, .data], laidTests := true, laidLooks := .later }
def RecordManyUptoCardSaid : Prop := Claim7.holds Tryd.pinned (.plain (OpenSpec.upto recordManySpec)) recordManyUptoCard
end Rows
end Go.Proofs.YtikdjbcfckjccaaDoor
