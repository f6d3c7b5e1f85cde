/-
  DERIVED. GIVEN WITH THE SEED: THE CARDS: each row of YtejikiebhjiocaaDoorRows.lean that lists a variable, with what it lists TIED to the program's text (the seventh form; the later family's looks); each row that meets fmt, with fmt's text TOLD by the authors' own Lean function (tested against real Go, not proved from fmt's source: count such statements apart). THE CARD IS WHAT COUNTS. Prove the row's statement (the work); the ties are given (YtejikiebhjiocaaDoorTie.lean); close each card by the builder's one call (the guide's Derived/Test/ToyasCard.lean, 'card_holds'). Laid BY PROGRAM, IN A SANDBOX (cutbox-door.mjs). By AI agents, Wed Nov 11 2026. No macro, syntax, notation, axiom, sorry.
-/
import Derived.Test.YtejikiebhjiocaaDoorRows
import GoSem.ClaimSeven
namespace Go.Proofs.YtejikiebhjiocaaDoor
namespace Rows

/-- THE TIED CARD OF 'orthoepylaw07.DecompStable'. -/
def decompStableCard : Claim7 := { stood := { row := decompStableRow, standIns := [], harness := (true, "41a817a4540dd6eed5482522ae2e1d42a9d872c03d27c8dfd93a937a141ade58"), looks := false }, kinds := [], alts := [], laidByText := true, laidKinds := [.data, .listed, .data, .pinned], laidTests := true, laidLooks := .later }
def DecompStableCardSaid : Prop := Claim7.holds Tryd.pinned (.plain (OpenSpec.ofChange decompStableSpec)) decompStableCard

/-- THE TIED CARD OF 'orthoepylaw08.ComposeBack'. -/
def composeBackCard : Claim7 := { stood := { row := composeBackRow, standIns := [], harness := (true, "41a817a4540dd6eed5482522ae2e1d42a9d872c03d27c8dfd93a937a141ade58"), looks := false }, kinds := [], alts := [], laidByText := true, laidKinds := [.data, .listed, .data, .pinned], laidTests := true, laidLooks := .later }
def ComposeBackCardSaid : Prop := Claim7.holds Tryd.pinned (.plain (OpenSpec.ofChange composeBackSpec)) composeBackCard

/-- THE TIED CARD OF 'orthoepylaw09.NfcQuick'. -/
def nfcQuickCard : Claim7 := { stood := { row := nfcQuickRow, standIns := [], harness := (true, "41a817a4540dd6eed5482522ae2e1d42a9d872c03d27c8dfd93a937a141ade58"), looks := false }, kinds := [], alts := [], laidByText := true, laidKinds := [.data, .listed, .data, .pinned], laidTests := true, laidLooks := .later }
def NfcQuickCardSaid : Prop := Claim7.holds Tryd.pinned (.plain (OpenSpec.ofChange nfcQuickSpec)) nfcQuickCard

/-- THE TIED CARD OF 'orthoepylaw09.NfcParts'. -/
def nfcPartsCard : Claim7 := { stood := { row := nfcPartsRow, standIns := [], harness := (true, "41a817a4540dd6eed5482522ae2e1d42a9d872c03d27c8dfd93a937a141ade58"), looks := false }, kinds := [], alts := [], laidByText := true, laidKinds := [.data, .listed, .data, .pinned], laidTests := true, laidLooks := .later }
def NfcPartsCardSaid : Prop := Claim7.holds Tryd.pinned (.plain (OpenSpec.ofChange nfcPartsSpec)) nfcPartsCard

/-- THE TIED CARD OF 'orthoepylaw09.NfcEqual'. -/
def nfcEqualCard : Claim7 := { stood := { row := nfcEqualRow, standIns := [], harness := (true, "41a817a4540dd6eed5482522ae2e1d42a9d872c03d27c8dfd93a937a141ade58"), looks := false }, kinds := [], alts := [], laidByText := true, laidKinds := [.data, .listed, .data, .pinned], laidTests := true, laidLooks := .later }
def NfcEqualCardSaid : Prop := Claim7.holds Tryd.pinned (.plain (OpenSpec.ofChange nfcEqualSpec)) nfcEqualCard

/-- THE SECOND FORM's CARD OF 'orthoepylaw07.DecompStable'. -/
def decompStableUptoCard : Claim7 := { stood := { row := decompStableUptoRow, standIns := [], harness := (true, "41a817a4540dd6eed5482522ae2e1d42a9d872c03d27c8dfd93a937a141ade58"), looks := false }, kinds := [], alts := [], laidByText := true, laidKinds := [.data, .listed, .data, .pinned], laidTests := true, laidLooks := .later }
def DecompStableUptoCardSaid : Prop := Claim7.holds Tryd.pinned (.plain (OpenSpec.upto decompStableSpec)) decompStableUptoCard

/-- THE SECOND FORM's CARD OF 'orthoepylaw08.ComposeBack'. -/
def composeBackUptoCard : Claim7 := { stood := { row := composeBackUptoRow, standIns := [], harness := (true, "41a817a4540dd6eed5482522ae2e1d42a9d872c03d27c8dfd93a937a141ade58"), looks := false }, kinds := [], alts := [], laidByText := true, laidKinds := [.data, .listed, .data, .pinned], laidTests := true, laidLooks := .later }
def ComposeBackUptoCardSaid : Prop := Claim7.holds Tryd.pinned (.plain (OpenSpec.upto composeBackSpec)) composeBackUptoCard

/-- THE SECOND FORM's CARD OF 'orthoepylaw09.NfcQuick'. -/
def nfcQuickUptoCard : Claim7 := { stood := { row := nfcQuickUptoRow, standIns := [], harness := (true, "41a817a4540dd6eed5482522ae2e1d42a9d872c03d27c8dfd93a937a141ade58"), looks := false }, kinds := [], alts := [], laidByText := true, laidKinds := [.data, .listed, .data, .pinned], laidTests := true, laidLooks := .later }
def NfcQuickUptoCardSaid : Prop := Claim7.holds Tryd.pinned (.plain (OpenSpec.upto nfcQuickSpec)) nfcQuickUptoCard

/-- THE SECOND FORM's CARD OF 'orthoepylaw09.NfcParts'. -/
def nfcPartsUptoCard : Claim7 := { stood := { row := nfcPartsUptoRow, standIns := [], harness := (true, "41a817a4540dd6eed5482522ae2e1d42a9d872c03d27c8dfd93a937a141ade58"), looks := false }, kinds := [], alts := [], laidByText := true, laidKinds := [.data, .listed, .data, .pinned], laidTests := true, laidLooks := .later }
def NfcPartsUptoCardSaid : Prop := Claim7.holds Tryd.pinned (.plain (OpenSpec.upto nfcPartsSpec)) nfcPartsUptoCard

/-- THE SECOND FORM's CARD OF 'orthoepylaw09.NfcEqual'. -/
def nfcEqualUptoCard : Claim7 := { stood := { row := nfcEqualUptoRow, standIns := [], harness := (true, "41a817a4540dd6eed5482522ae2e1d42a9d872c03d27c8dfd93a937a141ade58"), looks := false }, kinds := [], alts := [], laidByText := true, laidKinds := [.data, .listed, .data, .pinned], laidTests := true, laidLooks := .later }
def NfcEqualUptoCardSaid : Prop := Claim7.holds Tryd.pinned (.plain (OpenSpec.upto nfcEqualSpec)) nfcEqualUptoCard
end Rows
end Go.Proofs.YtejikiebhjiocaaDoor
