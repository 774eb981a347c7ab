/-
  DERIVED. GIVEN WITH THE SEED: THE CARDS: each row of YtpljdkancldndaaDoorRows.lean that lists a variable, with what it lists TIED to the program's text (the seventh form; the later family's looks); each row that meets fmt, with fmt's text TOLD by the authors' own Lean function (tested against real Go, not proved from fmt's source: count such statements apart). THE CARD IS WHAT COUNTS. Prove the row's statement (the work); the ties are given (YtpljdkancldndaaDoorTie.lean); close each card by the builder's one call (the guide's Derived/Test/ToyasCard.lean, 'card_holds'). Laid BY PROGRAM, IN A SANDBOX (cutbox-door.mjs). By AI agents, Wed Nov 11 2026. No macro, syntax, notation, axiom, sorry.
-/
import Derived.Test.YtpljdkancldndaaDoorRows
import GoSem.ClaimSeven
namespace Go.Proofs.YtpljdkancldndaaDoor
namespace Rows

/-- THE TIED CARD OF 'laws.FnExactShowOutcome'. -/
def fnExactShowOutcomeCard : Claim7 := { stood := { row := fnExactShowOutcomeRow, standIns := [], harness := (true, "475e62fac597b1a7f3c364c358c6f4ecf3b8f4c815835af85ebbc97f04107194"), looks := false }, kinds := [], alts := [], laidByText := true, laidKinds := [.data, .data, .data], laidTests := true, laidLooks := .later }
def FnExactShowOutcomeCardSaid : Prop := Claim7.holds Tryd.pinned (.plain (OpenSpec.ofChange fnExactShowOutcomeSpec)) fnExactShowOutcomeCard

/-- THE TIED CARD OF 'laws.FnExactShowVerdict'. -/
def fnExactShowVerdictCard : Claim7 := { stood := { row := fnExactShowVerdictRow, standIns := [], harness := (true, "475e62fac597b1a7f3c364c358c6f4ecf3b8f4c815835af85ebbc97f04107194"), looks := false }, kinds := [], alts := [], laidByText := true, laidKinds := [.data, .data, .data], laidTests := true, laidLooks := .later }
def FnExactShowVerdictCardSaid : Prop := Claim7.holds Tryd.pinned (.plain (OpenSpec.ofChange fnExactShowVerdictSpec)) fnExactShowVerdictCard

/-- THE TIED CARD OF 'laws.FnOutcomeShown'. -/
def fnOutcomeShownCard : Claim7 := { stood := { row := fnOutcomeShownRow, standIns := [], harness := (true, "475e62fac597b1a7f3c364c358c6f4ecf3b8f4c815835af85ebbc97f04107194"), looks := false }, kinds := [], alts := [], laidByText := true, laidKinds := [.data, .data, .data], laidTests := true, laidLooks := .later }
def FnOutcomeShownCardSaid : Prop := Claim7.holds Tryd.pinned (.plain (OpenSpec.ofChange fnOutcomeShownSpec)) fnOutcomeShownCard

/-- THE SECOND FORM's CARD OF 'laws.FnExactShowOutcome'. -/
def fnExactShowOutcomeUptoCard : Claim7 := { stood := { row := fnExactShowOutcomeUptoRow, standIns := [], harness := (true, "475e62fac597b1a7f3c364c358c6f4ecf3b8f4c815835af85ebbc97f04107194"), looks := false }, kinds := [], alts := [], laidByText := true, laidKinds := [.data, .data, .data], laidTests := true, laidLooks := .later }
def FnExactShowOutcomeUptoCardSaid : Prop := Claim7.holds Tryd.pinned (.plain (OpenSpec.upto fnExactShowOutcomeSpec)) fnExactShowOutcomeUptoCard

/-- THE SECOND FORM's CARD OF 'laws.FnExactShowVerdict'. -/
def fnExactShowVerdictUptoCard : Claim7 := { stood := { row := fnExactShowVerdictUptoRow, standIns := [], harness := (true, "475e62fac597b1a7f3c364c358c6f4ecf3b8f4c815835af85ebbc97f04107194"), looks := false }, kinds := [], alts := [], laidByText := true, laidKinds := [.data, .data, .data], laidTests := true, laidLooks := .later }
def FnExactShowVerdictUptoCardSaid : Prop := Claim7.holds Tryd.pinned (.plain (OpenSpec.upto fnExactShowVerdictSpec)) fnExactShowVerdictUptoCard

/-- THE SECOND FORM's CARD OF 'laws.FnOutcomeShown'. -/
def fnOutcomeShownUptoCard : Claim7 := { stood := { row := fnOutcomeShownUptoRow, standIns := [], harness := (true, "475e62fac597b1a7f3c364c358c6f4ecf3b8f4c815835af85ebbc97f04107194"), looks := false }, kinds := [], alts := [], laidByText := true, laidKinds := [.data, .data, .data], laidTests := true, laidLooks := .later }
def FnOutcomeShownUptoCardSaid : Prop := Claim7.holds Tryd.pinned (.plain (OpenSpec.upto fnOutcomeShownSpec)) fnOutcomeShownUptoCard
end Rows
end Go.Proofs.YtpljdkancldndaaDoor
