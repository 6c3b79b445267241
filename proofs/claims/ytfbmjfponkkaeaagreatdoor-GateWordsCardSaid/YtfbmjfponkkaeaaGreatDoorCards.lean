/-
  DERIVED. GIVEN WITH THE SEED: THE CARDS: each row of YtfbmjfponkkaeaaGreatDoorRows.lean that lists a variable, with what it lists TIED to the program's text (the seventh form; the later family's looks); each row that meets fmt, with fmt's text TOLD by the authors' own Lean function (tested against real Go, not proved from fmt's source: count such statements apart). THE CARD IS WHAT COUNTS. Prove the row's statement (the work); the ties are given (YtfbmjfponkkaeaaGreatDoorTie.lean); close each card by the builder's one call (the guide's Derived/Test/ToyasCard.lean, 'card_holds'). Laid BY PROGRAM, IN A SANDBOX (cutbox-door.mjs). By AI agents, Wed Nov 11 2026. No macro, syntax, notation, axiom, sorry.
-/
import Derived.Test.YtfbmjfponkkaeaaGreatDoorRows
import GoSem.ClaimSeven
namespace Go.Proofs.YtfbmjfponkkaeaaGreatDoor
namespace Rows

/-- THE TIED CARD OF 'bulwarklaw17.GateRefuses'. -/
def gateRefusesCard : Claim7 := { stood := { row := gateRefusesRow, standIns := [], harness := (true, "06c7d203b5c7bfedce7f09dac60c9abf4838a23bc30e27f47ddffc3c07f631a0"), looks := true }, kinds := [], alts := [], laidByText := true, laidKinds := [.data, .data, .data, .data, .sentinel, .sentinel, .sentinel, .sentinel, .listed, .data, .pinned], laidTests := true, laidLooks := .later }
def GateRefusesCardSaid : Prop := Claim7.holds Tryz.pinned (.plain (OpenSpec.ofChange gateRefusesSpec)) gateRefusesCard

/-- THE TIED CARD OF 'bulwarklaw17.GateTimes'. -/
def gateTimesCard : Claim7 := { stood := { row := gateTimesRow, standIns := [], harness := (true, "06c7d203b5c7bfedce7f09dac60c9abf4838a23bc30e27f47ddffc3c07f631a0"), looks := true }, kinds := [], alts := [], laidByText := true, laidKinds := [.data, .data, .data, .data, .sentinel, .sentinel, .sentinel, .sentinel, .listed, .data, .pinned], laidTests := true, laidLooks := .later }
def GateTimesCardSaid : Prop := Claim7.holds Tryz.pinned (.plain (OpenSpec.ofChange gateTimesSpec)) gateTimesCard

/-- THE TIED CARD OF 'bulwarklaw17.GateLines'. -/
def gateLinesCard : Claim7 := { stood := { row := gateLinesRow, standIns := [], harness := (true, "06c7d203b5c7bfedce7f09dac60c9abf4838a23bc30e27f47ddffc3c07f631a0"), looks := true }, kinds := [], alts := [], laidByText := true, laidKinds := [.data, .data, .data, .data, .sentinel, .sentinel, .sentinel, .sentinel, .listed, .data, .pinned], laidTests := true, laidLooks := .later }
def GateLinesCardSaid : Prop := Claim7.holds Tryz.pinned (.plain (OpenSpec.ofChange gateLinesSpec)) gateLinesCard

/-- THE TIED CARD OF 'bulwarklaw17.GateWords'. -/
def gateWordsCard : Claim7 := { stood := { row := gateWordsRow, standIns := [], harness := (true, "06c7d203b5c7bfedce7f09dac60c9abf4838a23bc30e27f47ddffc3c07f631a0"), looks := true }, kinds := [], alts := [], laidByText := true, laidKinds := [.data, .data, .data, .data, .sentinel, .sentinel, .sentinel, .sentinel, .listed, .data, .pinned], laidTests := true, laidLooks := .later }
def GateWordsCardSaid : Prop := Claim7.holds Tryz.pinned (.plain (OpenSpec.ofChange gateWordsSpec)) gateWordsCard

/-- THE SECOND FORM's CARD OF 'bulwarklaw17.GateRefuses'. -/
def gateRefusesUptoCard : Claim7 := { stood := { row := gateRefusesUptoRow, standIns := [], harness := (true, "06c7d203b5c7bfedce7f09dac60c9abf4838a23bc30e27f47ddffc3c07f631a0"), looks := true }, kinds := [], alts := [], laidByText := true, laidKinds := [.data, .data, .data, .data, .sentinel, .sentinel, .sentinel, .sentinel, .listed, .data, .pinned], laidTests := true, laidLooks := .later }
def GateRefusesUptoCardSaid : Prop := Claim7.holds Tryz.pinned (.plain (OpenSpec.upto gateRefusesSpec)) gateRefusesUptoCard

/-- THE SECOND FORM's CARD OF 'bulwarklaw17.GateTimes'. -/
def gateTimesUptoCard : Claim7 := { stood := { row := gateTimesUptoRow, standIns := [], harness := (true, "06c7d203b5c7bfedce7f09dac60c9abf4838a23bc30e27f47ddffc3c07f631a0"), looks := true }, kinds := [], alts := [], laidByText := true, laidKinds := [.data, .data, .data, .data, .sentinel, .sentinel, .sentinel, .sentinel, .listed, .data, .pinned], laidTests := true, laidLooks := .later }
def GateTimesUptoCardSaid : Prop := Claim7.holds Tryz.pinned (.plain (OpenSpec.upto gateTimesSpec)) gateTimesUptoCard

/-- THE SECOND FORM's CARD OF 'bulwarklaw17.GateLines'. -/
def gateLinesUptoCard : Claim7 := { stood := { row := gateLinesUptoRow, standIns := [], harness := (true, "06c7d203b5c7bfedce7f09dac60c9abf4838a23bc30e27f47ddffc3c07f631a0"), looks := true }, kinds := [], alts := [], laidByText := true, laidKinds := [.data, .data, .data, .data, .sentinel, .sentinel, .sentinel, .sentinel, .listed, .data, .pinned], laidTests := true, laidLooks := .later }
def GateLinesUptoCardSaid : Prop := Claim7.holds Tryz.pinned (.plain (OpenSpec.upto gateLinesSpec)) gateLinesUptoCard

/-- THE SECOND FORM's CARD OF 'bulwarklaw17.GateWords'. -/
def gateWordsUptoCard : Claim7 := { stood := { row := gateWordsUptoRow, standIns := [], harness := (true, "06c7d203b5c7bfedce7f09dac60c9abf4838a23bc30e27f47ddffc3c07f631a0"), looks := true }, kinds := [], alts := [], laidByText := true, laidKinds := [.data, .data, .data, .data, .sentinel, .sentinel, .sentinel, .sentinel, .listed, .data, .pinned], laidTests := true, laidLooks := .later }
def GateWordsUptoCardSaid : Prop := Claim7.holds Tryz.pinned (.plain (OpenSpec.upto gateWordsSpec)) gateWordsUptoCard
end Rows
end Go.Proofs.YtfbmjfponkkaeaaGreatDoor
