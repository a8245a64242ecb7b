/-
  DERIVED. GIVEN WITH THE SEED: THE CARDS: each row of YtbgijijecipjeaaDoorRows.lean that lists a variable, with what it lists TIED to the program's text (the seventh form; the later family's looks); each row that meets fmt, with fmt's text TOLD by the authors' own Lean function (tested against real Go, not proved from fmt's source: count such statements apart). THE CARD IS WHAT COUNTS. Prove the row's statement (the work); the ties are given (YtbgijijecipjeaaDoorTie.lean); close each card by the builder's one call (the guide's Derived/Test/ToyasCard.lean, 'card_holds'). Laid BY PROGRAM, IN A SANDBOX (cutbox-door.mjs). By AI agents, Wed Nov 11 2026. No macro, syntax, notation, axiom, sorry.
-/
import Derived.Test.YtbgijijecipjeaaDoorRows
import GoSem.ClaimSeven
namespace Go.Proofs.YtbgijijecipjeaaDoor
namespace Rows

/-- THE TIED CARD OF 'custodylaw30.CustodianMatchesSpec'. -/
def custodianMatchesSpecCard : Claim7 := { stood := { row := custodianMatchesSpecRow, standIns := [], harness := (true, "76ae9cdaeec67c6b438d928efe4306523b785fb2b1d3649032f2f12263f360ea"), looks := false }, kinds := [], alts := [], laidByText := true, laidKinds := [.data, .data], laidTests := true, laidLooks := .later }
def CustodianMatchesSpecCardSaid : Prop := Claim7.holds Tryd.pinned (.plain (OpenSpec.ofChange custodianMatchesSpecSpec)) custodianMatchesSpecCard

/-- THE TIED CARD OF 'custodylaw30.CustodianChecksAsSpecified'. -/
def custodianChecksAsSpecifiedCard : Claim7 := { stood := { row := custodianChecksAsSpecifiedRow, standIns := [], harness := (true, "76ae9cdaeec67c6b438d928efe4306523b785fb2b1d3649032f2f12263f360ea"), looks := false }, kinds := [], alts := [], laidByText := true, laidKinds := [.data, .data], laidTests := true, laidLooks := .later }
def CustodianChecksAsSpecifiedCardSaid : Prop := Claim7.holds Tryd.pinned (.plain (OpenSpec.ofChange custodianChecksAsSpecifiedSpec)) custodianChecksAsSpecifiedCard

/-- THE TIED CARD OF 'custodylaw30.CustodianStatements'. -/
def custodianStatementsCard : Claim7 := { stood := { row := custodianStatementsRow, standIns := [], harness := (true, "76ae9cdaeec67c6b438d928efe4306523b785fb2b1d3649032f2f12263f360ea"), looks := false }, kinds := [], alts := [], laidByText := true, laidKinds := [.data], laidTests := true, laidLooks := .later }
def CustodianStatementsCardSaid : Prop := Claim7.holds Tryd.pinned (.plain (OpenSpec.ofChange custodianStatementsSpec)) custodianStatementsCard

/-- THE TIED CARD OF 'custodylaw30.CustodianReplaced'. -/
def custodianReplacedCard : Claim7 := { stood := { row := custodianReplacedRow, standIns := [], harness := (true, "76ae9cdaeec67c6b438d928efe4306523b785fb2b1d3649032f2f12263f360ea"), looks := false }, kinds := [], alts := [], laidByText := true, laidKinds := [.data], laidTests := true, laidLooks := .later }
def CustodianReplacedCardSaid : Prop := Claim7.holds Tryd.pinned (.plain (OpenSpec.ofChange custodianReplacedSpec)) custodianReplacedCard

/-- THE TIED CARD OF 'custodylaw30.CustodianDecode'. -/
def custodianDecodeCard : Claim7 := { stood := { row := custodianDecodeRow, standIns := [], harness := (true, "76ae9cdaeec67c6b438d928efe4306523b785fb2b1d3649032f2f12263f360ea"), looks := false }, kinds := [], alts := [], laidByText := true, laidKinds := [.data], laidTests := true, laidLooks := .later }
def CustodianDecodeCardSaid : Prop := Claim7.holds Tryd.pinned (.plain (OpenSpec.ofChange custodianDecodeSpec)) custodianDecodeCard

/-- THE SECOND FORM's CARD OF 'custodylaw30.CustodianMatchesSpec'. -/
def custodianMatchesSpecUptoCard : Claim7 := { stood := { row := custodianMatchesSpecUptoRow, standIns := [], harness := (true, "76ae9cdaeec67c6b438d928efe4306523b785fb2b1d3649032f2f12263f360ea"), looks := false }, kinds := [], alts := [], laidByText := true, laidKinds := [.data, .data], laidTests := true, laidLooks := .later }
def CustodianMatchesSpecUptoCardSaid : Prop := Claim7.holds Tryd.pinned (.plain (OpenSpec.upto custodianMatchesSpecSpec)) custodianMatchesSpecUptoCard

/-- THE SECOND FORM's CARD OF 'custodylaw30.CustodianChecksAsSpecified'. -/
def custodianChecksAsSpecifiedUptoCard : Claim7 := { stood := { row := custodianChecksAsSpecifiedUptoRow, standIns := [], harness := (true, "76ae9cdaeec67c6b438d928efe4306523b785fb2b1d3649032f2f12263f360ea"), looks := false }, kinds := [], alts := [], laidByText := true, laidKinds := [.data, .data], laidTests := true, laidLooks := .later }
def CustodianChecksAsSpecifiedUptoCardSaid : Prop := Claim7.holds Tryd.pinned (.plain (OpenSpec.upto custodianChecksAsSpecifiedSpec)) custodianChecksAsSpecifiedUptoCard

/-- THE SECOND FORM's CARD OF 'custodylaw30.CustodianStatements'. -/
def custodianStatementsUptoCard : Claim7 := { stood := { row := custodianStatementsUptoRow, standIns := [], harness := (true, "76ae9cdaeec67c6b438d928efe4306523b785fb2b1d3649032f2f12263f360ea"), looks := false }, kinds := [], alts := [], laidByText := true, laidKinds := [.data], laidTests := true, laidLooks := .later }
def CustodianStatementsUptoCardSaid : Prop := Claim7.holds Tryd.pinned (.plain (OpenSpec.upto custodianStatementsSpec)) custodianStatementsUptoCard

/-- THE SECOND FORM's CARD OF 'custodylaw30.CustodianReplaced'. -/
def custodianReplacedUptoCard : Claim7 := { stood := { row := custodianReplacedUptoRow, standIns := [], harness := (true, "76ae9cdaeec67c6b438d928efe4306523b785fb2b1d3649032f2f12263f360ea"), looks := false }, kinds := [], alts := [], laidByText := true, laidKinds := [.data], laidTests := true, laidLooks := .later }
def CustodianReplacedUptoCardSaid : Prop := Claim7.holds Tryd.pinned (.plain (OpenSpec.upto custodianReplacedSpec)) custodianReplacedUptoCard

/-- THE SECOND FORM's CARD OF 'custodylaw30.CustodianDecode'. -/
def custodianDecodeUptoCard : Claim7 := { stood := { row := custodianDecodeUptoRow, standIns := [], harness := (true, "76ae9cdaeec67c6b438d928efe4306523b785fb2b1d3649032f2f12263f360ea"), looks := false }, kinds := [], alts := [], laidByText := true, laidKinds := [.data], laidTests := true, laidLooks := .later }
def CustodianDecodeUptoCardSaid : Prop := Claim7.holds Tryd.pinned (.plain (OpenSpec.upto custodianDecodeSpec)) custodianDecodeUptoCard
end Rows
end Go.Proofs.YtbgijijecipjeaaDoor
