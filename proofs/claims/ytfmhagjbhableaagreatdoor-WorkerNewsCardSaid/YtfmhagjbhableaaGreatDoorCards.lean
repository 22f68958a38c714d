/-
  DERIVED. GIVEN WITH THE SEED: THE CARDS: each row of YtfmhagjbhableaaGreatDoorRows.lean that lists a variable, with what it lists TIED to the program's text (the seventh form; the later family's looks); each row that meets fmt, with fmt's text TOLD by the authors' own Lean function (tested against real Go, not proved from fmt's source: count such statements apart). THE CARD IS WHAT COUNTS. Prove the row's statement (the work); the ties are given (YtfmhagjbhableaaGreatDoorTie.lean); close each card by the builder's one call (the guide's Derived/Test/ToyasCard.lean, 'card_holds'). Laid BY PROGRAM, IN A SANDBOX (cutbox-door.mjs). By AI agents, Wed Nov 11 2026. No macro, syntax, notation, axiom, sorry.
-/
import Derived.Test.YtfmhagjbhableaaGreatDoorRows
import GoSem.ClaimSeven
namespace Go.Proofs.YtfmhagjbhableaaGreatDoor
namespace Rows

/-- THE TIED CARD OF 'faaslaw56.WorkerLimits'. -/
def workerLimitsCard : Claim7 := { stood := { row := workerLimitsRow, standIns := [], harness := (true, "4d60778ebb92e14abcc0f6101d1e8dc5263501ce1d014b607501cdfe37478a46"), looks := true }, kinds := [], alts := [], laidByText := true, laidKinds := [.data, .data, .data, .sentinel, .sentinel, .data, .pinned, .data], laidTests := true, laidLooks := .later }
def WorkerLimitsCardSaid : Prop := Claim7.holds Tryz.pinned (.plain (OpenSpec.ofChange workerLimitsSpec)) workerLimitsCard

/-- THE TIED CARD OF 'faaslaw56.WorkerOnce'. -/
def workerOnceCard : Claim7 := { stood := { row := workerOnceRow, standIns := [], harness := (true, "4d60778ebb92e14abcc0f6101d1e8dc5263501ce1d014b607501cdfe37478a46"), looks := true }, kinds := [], alts := [], laidByText := true, laidKinds := [.data, .data, .data, .sentinel, .sentinel, .data, .pinned, .data], laidTests := true, laidLooks := .later }
def WorkerOnceCardSaid : Prop := Claim7.holds Tryz.pinned (.plain (OpenSpec.ofChange workerOnceSpec)) workerOnceCard

/-- THE TIED CARD OF 'faaslaw56.WorkerRunsFairly'. -/
def workerRunsFairlyCard : Claim7 := { stood := { row := workerRunsFairlyRow, standIns := [], harness := (true, "4d60778ebb92e14abcc0f6101d1e8dc5263501ce1d014b607501cdfe37478a46"), looks := true }, kinds := [], alts := [], laidByText := true, laidKinds := [.data, .data, .data, .sentinel, .sentinel, .data, .pinned, .data], laidTests := true, laidLooks := .later }
def WorkerRunsFairlyCardSaid : Prop := Claim7.holds Tryz.pinned (.plain (OpenSpec.ofChange workerRunsFairlySpec)) workerRunsFairlyCard

/-- THE TIED CARD OF 'faaslaw56.WorkerEpochs'. -/
def workerEpochsCard : Claim7 := { stood := { row := workerEpochsRow, standIns := [], harness := (true, "4d60778ebb92e14abcc0f6101d1e8dc5263501ce1d014b607501cdfe37478a46"), looks := true }, kinds := [], alts := [], laidByText := true, laidKinds := [.data, .data, .data, .sentinel, .sentinel, .data, .pinned, .data], laidTests := true, laidLooks := .later }
def WorkerEpochsCardSaid : Prop := Claim7.holds Tryz.pinned (.plain (OpenSpec.ofChange workerEpochsSpec)) workerEpochsCard

/-- THE TIED CARD OF 'faaslaw56.WorkerPlays'. -/
def workerPlaysCard : Claim7 := { stood := { row := workerPlaysRow, standIns := [], harness := (true, "4d60778ebb92e14abcc0f6101d1e8dc5263501ce1d014b607501cdfe37478a46"), looks := true }, kinds := [], alts := [], laidByText := true, laidKinds := [.data, .data, .data, .sentinel, .sentinel, .data, .pinned, .data], laidTests := true, laidLooks := .later }
def WorkerPlaysCardSaid : Prop := Claim7.holds Tryz.pinned (.plain (OpenSpec.ofChange workerPlaysSpec)) workerPlaysCard

/-- THE TIED CARD OF 'faaslaw56.WorkerNews'. -/
def workerNewsCard : Claim7 := { stood := { row := workerNewsRow, standIns := [], harness := (true, "4d60778ebb92e14abcc0f6101d1e8dc5263501ce1d014b607501cdfe37478a46"), looks := true }, kinds := [], alts := [], laidByText := true, laidKinds := [.data, .data, .data, .sentinel, .sentinel, .data, .pinned, .data], laidTests := true, laidLooks := .later }
def WorkerNewsCardSaid : Prop := Claim7.holds Tryz.pinned (.plain (OpenSpec.ofChange workerNewsSpec)) workerNewsCard

/-- THE SECOND FORM's CARD OF 'faaslaw56.WorkerLimits'. -/
def workerLimitsUptoCard : Claim7 := { stood := { row := workerLimitsUptoRow, standIns := [], harness := (true, "4d60778ebb92e14abcc0f6101d1e8dc5263501ce1d014b607501cdfe37478a46"), looks := true }, kinds := [], alts := [], laidByText := true, laidKinds := [.data, .data, .data, .sentinel, .sentinel, .data, .pinned, .data], laidTests := true, laidLooks := .later }
def WorkerLimitsUptoCardSaid : Prop := Claim7.holds Tryz.pinned (.plain (OpenSpec.upto workerLimitsSpec)) workerLimitsUptoCard

/-- THE SECOND FORM's CARD OF 'faaslaw56.WorkerOnce'. -/
def workerOnceUptoCard : Claim7 := { stood := { row := workerOnceUptoRow, standIns := [], harness := (true, "4d60778ebb92e14abcc0f6101d1e8dc5263501ce1d014b607501cdfe37478a46"), looks := true }, kinds := [], alts := [], laidByText := true, laidKinds := [.data, .data, .data, .sentinel, .sentinel, .data, .pinned, .data], laidTests := true, laidLooks := .later }
def WorkerOnceUptoCardSaid : Prop := Claim7.holds Tryz.pinned (.plain (OpenSpec.upto workerOnceSpec)) workerOnceUptoCard

/-- THE SECOND FORM's CARD OF 'faaslaw56.WorkerRunsFairly'. -/
def workerRunsFairlyUptoCard : Claim7 := { stood := { row := workerRunsFairlyUptoRow, standIns := [], harness := (true, "4d60778ebb92e14abcc0f6101d1e8dc5263501ce1d014b607501cdfe37478a46"), looks := true }, kinds := [], alts := [], laidByText := true, laidKinds := [.data, .data, .data, .sentinel, .sentinel, .data, .pinned, .data], laidTests := true, laidLooks := .later }
def WorkerRunsFairlyUptoCardSaid : Prop := Claim7.holds Tryz.pinned (.plain (OpenSpec.upto workerRunsFairlySpec)) workerRunsFairlyUptoCard

/-- THE SECOND FORM's CARD OF 'faaslaw56.WorkerEpochs'. -/
def workerEpochsUptoCard : Claim7 := { stood := { row := workerEpochsUptoRow, standIns := [], harness := (true, "4d60778ebb92e14abcc0f6101d1e8dc5263501ce1d014b607501cdfe37478a46"), looks := true }, kinds := [], alts := [], laidByText := true, laidKinds := [.data, .data, .data, .sentinel, .sentinel, .data, .pinned, .data], laidTests := true, laidLooks := .later }
def WorkerEpochsUptoCardSaid : Prop := Claim7.holds Tryz.pinned (.plain (OpenSpec.upto workerEpochsSpec)) workerEpochsUptoCard

/-- THE SECOND FORM's CARD OF 'faaslaw56.WorkerPlays'. -/
def workerPlaysUptoCard : Claim7 := { stood := { row := workerPlaysUptoRow, standIns := [], harness := (true, "4d60778ebb92e14abcc0f6101d1e8dc5263501ce1d014b607501cdfe37478a46"), looks := true }, kinds := [], alts := [], laidByText := true, laidKinds := [.data, .data, .data, .sentinel, .sentinel, .data, .pinned, .data], laidTests := true, laidLooks := .later }
def WorkerPlaysUptoCardSaid : Prop := Claim7.holds Tryz.pinned (.plain (OpenSpec.upto workerPlaysSpec)) workerPlaysUptoCard

/-- THE SECOND FORM's CARD OF 'faaslaw56.WorkerNews'. -/
def workerNewsUptoCard : Claim7 := { stood := { row := workerNewsUptoRow, standIns := [], harness := (true, "4d60778ebb92e14abcc0f6101d1e8dc5263501ce1d014b607501cdfe37478a46"), looks := true }, kinds := [], alts := [], laidByText := true, laidKinds := [.data, .data, .data, .sentinel, .sentinel, .data, .pinned, .data], laidTests := true, laidLooks := .later }
def WorkerNewsUptoCardSaid : Prop := Claim7.holds Tryz.pinned (.plain (OpenSpec.upto workerNewsSpec)) workerNewsUptoCard
end Rows
end Go.Proofs.YtfmhagjbhableaaGreatDoor
