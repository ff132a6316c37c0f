/-
  DERIVED. GIVEN WITH THE SEED: THE CARDS: each row of YtcmbofoddfhnjaaDoorRows.lean that lists a variable, with what it lists TIED to the program's text (the seventh form; the later family's looks); each row that meets fmt, with fmt's text TOLD by the authors' own Lean function (tested against real Go, not proved from fmt's source: count such statements apart). THE CARD IS WHAT COUNTS. Prove the row's statement (the work); the ties are given (YtcmbofoddfhnjaaDoorTie.lean); close each card by the builder's one call (the guide's Derived/Test/ToyasCard.lean, 'card_holds'). Laid BY PROGRAM, IN A SANDBOX (cutbox-door.mjs). By AI agents, Wed Nov 11 2026. No macro, syntax, notation, axiom, sorry.
-/
import Derived.Test.YtcmbofoddfhnjaaDoorRows
import GoSem.ClaimSeven
namespace Go.Proofs.YtcmbofoddfhnjaaDoor
namespace Rows

/-- THE TIED CARD OF 'honeycomblaw5.PageTells'. -/
def pageTellsCard : Claim7 := { stood := { row := pageTellsRow, standIns := [], harness := (true, "4739bc8c63d75cab5eac8a06b1a38b22a7e9724e7da09200427cc8033e2125bb"), looks := false }, kinds := [], alts := [], laidByText := true, laidKinds := [.listed, .data], laidTests := true, laidLooks := .later }
def PageTellsCardSaid : Prop := Claim7.holds Tryd.pinned (.plain (OpenSpec.ofChange pageTellsSpec)) pageTellsCard

/-- THE TIED CARD OF 'honeycomblaw5.PageZero'. -/
def pageZeroCard : Claim7 := { stood := { row := pageZeroRow, standIns := [], harness := (true, "4739bc8c63d75cab5eac8a06b1a38b22a7e9724e7da09200427cc8033e2125bb"), looks := false }, kinds := [], alts := [], laidByText := true, laidKinds := [.listed, .data], laidTests := true, laidLooks := .later }
def PageZeroCardSaid : Prop := Claim7.holds Tryd.pinned (.plain (OpenSpec.ofChange pageZeroSpec)) pageZeroCard

/-- THE TIED CARD OF 'honeycomblaw5.PageFields'. -/
def pageFieldsCard : Claim7 := { stood := { row := pageFieldsRow, standIns := [], harness := (true, "4739bc8c63d75cab5eac8a06b1a38b22a7e9724e7da09200427cc8033e2125bb"), looks := false }, kinds := [], alts := [], laidByText := true, laidKinds := [.listed, .data], laidTests := true, laidLooks := .later }
def PageFieldsCardSaid : Prop := Claim7.holds Tryd.pinned (.plain (OpenSpec.ofChange pageFieldsSpec)) pageFieldsCard

/-- THE TIED CARD OF 'honeycomblaw5.PageNames'. -/
def pageNamesCard : Claim7 := { stood := { row := pageNamesRow, standIns := [], harness := (true, "4739bc8c63d75cab5eac8a06b1a38b22a7e9724e7da09200427cc8033e2125bb"), looks := false }, kinds := [], alts := [], laidByText := true, laidKinds := [.listed, .data], laidTests := true, laidLooks := .later }
def PageNamesCardSaid : Prop := Claim7.holds Tryd.pinned (.plain (OpenSpec.ofChange pageNamesSpec)) pageNamesCard

/-- THE TIED CARD OF 'honeycomblaw5.PageTurned'. -/
def pageTurnedCard : Claim7 := { stood := { row := pageTurnedRow, standIns := [], harness := (true, "4739bc8c63d75cab5eac8a06b1a38b22a7e9724e7da09200427cc8033e2125bb"), looks := false }, kinds := [], alts := [], laidByText := true, laidKinds := [.listed, .data], laidTests := true, laidLooks := .later }
def PageTurnedCardSaid : Prop := Claim7.holds Tryd.pinned (.plain (OpenSpec.ofChange pageTurnedSpec)) pageTurnedCard

/-- THE TIED CARD OF 'honeycomblaw5.PageSizes'. -/
def pageSizesCard : Claim7 := { stood := { row := pageSizesRow, standIns := [], harness := (true, "4739bc8c63d75cab5eac8a06b1a38b22a7e9724e7da09200427cc8033e2125bb"), looks := false }, kinds := [], alts := [], laidByText := true, laidKinds := [.listed, .data], laidTests := true, laidLooks := .later }
def PageSizesCardSaid : Prop := Claim7.holds Tryd.pinned (.plain (OpenSpec.ofChange pageSizesSpec)) pageSizesCard

/-- THE SECOND FORM's CARD OF 'honeycomblaw5.PageTells'. -/
def pageTellsUptoCard : Claim7 := { stood := { row := pageTellsUptoRow, standIns := [], harness := (true, "4739bc8c63d75cab5eac8a06b1a38b22a7e9724e7da09200427cc8033e2125bb"), looks := false }, kinds := [], alts := [], laidByText := true, laidKinds := [.listed, .data], laidTests := true, laidLooks := .later }
def PageTellsUptoCardSaid : Prop := Claim7.holds Tryd.pinned (.plain (OpenSpec.upto pageTellsSpec)) pageTellsUptoCard

/-- THE SECOND FORM's CARD OF 'honeycomblaw5.PageZero'. -/
def pageZeroUptoCard : Claim7 := { stood := { row := pageZeroUptoRow, standIns := [], harness := (true, "4739bc8c63d75cab5eac8a06b1a38b22a7e9724e7da09200427cc8033e2125bb"), looks := false }, kinds := [], alts := [], laidByText := true, laidKinds := [.listed, .data], laidTests := true, laidLooks := .later }
def PageZeroUptoCardSaid : Prop := Claim7.holds Tryd.pinned (.plain (OpenSpec.upto pageZeroSpec)) pageZeroUptoCard

/-- THE SECOND FORM's CARD OF 'honeycomblaw5.PageFields'. -/
def pageFieldsUptoCard : Claim7 := { stood := { row := pageFieldsUptoRow, standIns := [], harness := (true, "4739bc8c63d75cab5eac8a06b1a38b22a7e9724e7da09200427cc8033e2125bb"), looks := false }, kinds := [], alts := [], laidByText := true, laidKinds := [.listed, .data], laidTests := true, laidLooks := .later }
def PageFieldsUptoCardSaid : Prop := Claim7.holds Tryd.pinned (.plain (OpenSpec.upto pageFieldsSpec)) pageFieldsUptoCard

/-- THE SECOND FORM's CARD OF 'honeycomblaw5.PageNames'. -/
def pageNamesUptoCard : Claim7 := { stood := { row := pageNamesUptoRow, standIns := [], harness := (true, "4739bc8c63d75cab5eac8a06b1a38b22a7e9724e7da09200427cc8033e2125bb"), looks := false }, kinds := [], alts := [], laidByText := true, laidKinds := [.listed, .data], laidTests := true, laidLooks := .later }
def PageNamesUptoCardSaid : Prop := Claim7.holds Tryd.pinned (.plain (OpenSpec.upto pageNamesSpec)) pageNamesUptoCard

/-- THE SECOND FORM's CARD OF 'honeycomblaw5.PageTurned'. -/
def pageTurnedUptoCard : Claim7 := { stood := { row := pageTurnedUptoRow, standIns := [], harness := (true, "4739bc8c63d75cab5eac8a06b1a38b22a7e9724e7da09200427cc8033e2125bb"), looks := false }, kinds := [], alts := [], laidByText := true, laidKinds := [.listed, .data], laidTests := true, laidLooks := .later }
def PageTurnedUptoCardSaid : Prop := Claim7.holds Tryd.pinned (.plain (OpenSpec.upto pageTurnedSpec)) pageTurnedUptoCard

/-- THE SECOND FORM's CARD OF 'honeycomblaw5.PageSizes'. -/
def pageSizesUptoCard : Claim7 := { stood := { row := pageSizesUptoRow, standIns := [], harness := (true, "4739bc8c63d75cab5eac8a06b1a38b22a7e9724e7da09200427cc8033e2125bb"), looks := false }, kinds := [], alts := [], laidByText := true, laidKinds := [.listed, .data], laidTests := true, laidLooks := .later }
def PageSizesUptoCardSaid : Prop := Claim7.holds Tryd.pinned (.plain (OpenSpec.upto pageSizesSpec)) pageSizesUptoCard
end Rows
end Go.Proofs.YtcmbofoddfhnjaaDoor
