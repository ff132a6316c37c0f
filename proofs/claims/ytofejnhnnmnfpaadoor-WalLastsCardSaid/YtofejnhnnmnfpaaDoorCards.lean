/-
  DERIVED. GIVEN WITH THE SEED: THE CARDS: each row of YtofejnhnnmnfpaaDoorRows.lean that lists a variable, with what it lists TIED to the program's text (the seventh form; the later family's looks); each row that meets fmt, with fmt's text TOLD by the authors' own Lean function (tested against real Go, not proved from fmt's source: count such statements apart). THE CARD IS WHAT COUNTS. Prove the row's statement (the work); the ties are given (YtofejnhnnmnfpaaDoorTie.lean); close each card by the builder's one call (the guide's Derived/Test/ToyasCard.lean, 'card_holds'). Laid BY PROGRAM, IN A SANDBOX (cutbox-door.mjs). By AI agents, Wed Nov 11 2026. No macro, syntax, notation, axiom, sorry.
-/
import Derived.Test.YtofejnhnnmnfpaaDoorRows
import GoSem.ClaimSeven
namespace Go.Proofs.YtofejnhnnmnfpaaDoor
namespace Rows

/-- THE TIED CARD OF 'honeycomblaw14.WalFull'. -/
def walFullCard : Claim7 := { stood := { row := walFullRow, standIns := [], harness := (true, "fadd8793c866035f266a73e7f9e89d973bc655ee36d24417e42e639554fdd1d0"), looks := false }, kinds := [], alts := [], laidByText := true, laidKinds := [.listed, .data], laidTests := true, laidLooks := .later }
def WalFullCardSaid : Prop := Claim7.holds Tryd.pinned (.plain (OpenSpec.ofChange walFullSpec)) walFullCard

/-- THE TIED CARD OF 'honeycomblaw14.WalLeft'. -/
def walLeftCard : Claim7 := { stood := { row := walLeftRow, standIns := [], harness := (true, "fadd8793c866035f266a73e7f9e89d973bc655ee36d24417e42e639554fdd1d0"), looks := false }, kinds := [], alts := [], laidByText := true, laidKinds := [.listed, .data], laidTests := true, laidLooks := .later }
def WalLeftCardSaid : Prop := Claim7.holds Tryd.pinned (.plain (OpenSpec.ofChange walLeftSpec)) walLeftCard

/-- THE TIED CARD OF 'honeycomblaw14.WalErrors'. -/
def walErrorsCard : Claim7 := { stood := { row := walErrorsRow, standIns := [], harness := (true, "fadd8793c866035f266a73e7f9e89d973bc655ee36d24417e42e639554fdd1d0"), looks := false }, kinds := [], alts := [], laidByText := true, laidKinds := [.listed, .data], laidTests := true, laidLooks := .later }
def WalErrorsCardSaid : Prop := Claim7.holds Tryd.pinned (.plain (OpenSpec.ofChange walErrorsSpec)) walErrorsCard

/-- THE TIED CARD OF 'honeycomblaw14.WalEpochs'. -/
def walEpochsCard : Claim7 := { stood := { row := walEpochsRow, standIns := [], harness := (true, "fadd8793c866035f266a73e7f9e89d973bc655ee36d24417e42e639554fdd1d0"), looks := false }, kinds := [], alts := [], laidByText := true, laidKinds := [.listed, .data], laidTests := true, laidLooks := .later }
def WalEpochsCardSaid : Prop := Claim7.holds Tryd.pinned (.plain (OpenSpec.ofChange walEpochsSpec)) walEpochsCard

/-- THE TIED CARD OF 'honeycomblaw14.WalLasts'. -/
def walLastsCard : Claim7 := { stood := { row := walLastsRow, standIns := [], harness := (true, "fadd8793c866035f266a73e7f9e89d973bc655ee36d24417e42e639554fdd1d0"), looks := false }, kinds := [], alts := [], laidByText := true, laidKinds := [.listed, .data], laidTests := true, laidLooks := .later }
def WalLastsCardSaid : Prop := Claim7.holds Tryd.pinned (.plain (OpenSpec.ofChange walLastsSpec)) walLastsCard

/-- THE TIED CARD OF 'honeycomblaw14.WalTo'. -/
def walToCard : Claim7 := { stood := { row := walToRow, standIns := [], harness := (true, "fadd8793c866035f266a73e7f9e89d973bc655ee36d24417e42e639554fdd1d0"), looks := false }, kinds := [], alts := [], laidByText := true, laidKinds := [.listed, .data], laidTests := true, laidLooks := .later }
def WalToCardSaid : Prop := Claim7.holds Tryd.pinned (.plain (OpenSpec.ofChange walToSpec)) walToCard

/-- THE SECOND FORM's CARD OF 'honeycomblaw14.WalFull'. -/
def walFullUptoCard : Claim7 := { stood := { row := walFullUptoRow, standIns := [], harness := (true, "fadd8793c866035f266a73e7f9e89d973bc655ee36d24417e42e639554fdd1d0"), looks := false }, kinds := [], alts := [], laidByText := true, laidKinds := [.listed, .data], laidTests := true, laidLooks := .later }
def WalFullUptoCardSaid : Prop := Claim7.holds Tryd.pinned (.plain (OpenSpec.upto walFullSpec)) walFullUptoCard

/-- THE SECOND FORM's CARD OF 'honeycomblaw14.WalLeft'. -/
def walLeftUptoCard : Claim7 := { stood := { row := walLeftUptoRow, standIns := [], harness := (true, "fadd8793c866035f266a73e7f9e89d973bc655ee36d24417e42e639554fdd1d0"), looks := false }, kinds := [], alts := [], laidByText := true, laidKinds := [.listed, .data], laidTests := true, laidLooks := .later }
def WalLeftUptoCardSaid : Prop := Claim7.holds Tryd.pinned (.plain (OpenSpec.upto walLeftSpec)) walLeftUptoCard

/-- THE SECOND FORM's CARD OF 'honeycomblaw14.WalErrors'. -/
def walErrorsUptoCard : Claim7 := { stood := { row := walErrorsUptoRow, standIns := [], harness := (true, "fadd8793c866035f266a73e7f9e89d973bc655ee36d24417e42e639554fdd1d0"), looks := false }, kinds := [], alts := [], laidByText := true, laidKinds := [.listed, .data], laidTests := true, laidLooks := .later }
def WalErrorsUptoCardSaid : Prop := Claim7.holds Tryd.pinned (.plain (OpenSpec.upto walErrorsSpec)) walErrorsUptoCard

/-- THE SECOND FORM's CARD OF 'honeycomblaw14.WalEpochs'. -/
def walEpochsUptoCard : Claim7 := { stood := { row := walEpochsUptoRow, standIns := [], harness := (true, "fadd8793c866035f266a73e7f9e89d973bc655ee36d24417e42e639554fdd1d0"), looks := false }, kinds := [], alts := [], laidByText := true, laidKinds := [.listed, .data], laidTests := true, laidLooks := .later }
def WalEpochsUptoCardSaid : Prop := Claim7.holds Tryd.pinned (.plain (OpenSpec.upto walEpochsSpec)) walEpochsUptoCard

/-- THE SECOND FORM's CARD OF 'honeycomblaw14.WalLasts'. -/
def walLastsUptoCard : Claim7 := { stood := { row := walLastsUptoRow, standIns := [], harness := (true, "fadd8793c866035f266a73e7f9e89d973bc655ee36d24417e42e639554fdd1d0"), looks := false }, kinds := [], alts := [], laidByText := true, laidKinds := [.listed, .data], laidTests := true, laidLooks := .later }
def WalLastsUptoCardSaid : Prop := Claim7.holds Tryd.pinned (.plain (OpenSpec.upto walLastsSpec)) walLastsUptoCard

/-- THE SECOND FORM's CARD OF 'honeycomblaw14.WalTo'. -/
def walToUptoCard : Claim7 := { stood := { row := walToUptoRow, standIns := [], harness := (true, "fadd8793c866035f266a73e7f9e89d973bc655ee36d24417e42e639554fdd1d0"), looks := false }, kinds := [], alts := [], laidByText := true, laidKinds := [.listed, .data], laidTests := true, laidLooks := .later }
def WalToUptoCardSaid : Prop := Claim7.holds Tryd.pinned (.plain (OpenSpec.upto walToSpec)) walToUptoCard
end Rows
end Go.Proofs.YtofejnhnnmnfpaaDoor
