/-
  DERIVED. GIVEN WITH THE SEED: THE CARDS: each row of YtcngblnkfiggjaaDoorRows.lean that lists a variable, with what it lists TIED to the program's text (the seventh form; the later family's looks); each row that meets fmt, with fmt's text TOLD by the authors' own Lean function (tested against real Go, not proved from fmt's source: count such statements apart). THE CARD IS WHAT COUNTS. Prove the row's statement (the work); the ties are given (YtcngblnkfiggjaaDoorTie.lean); close each card by the builder's one call (the guide's Derived/Test/ToyasCard.lean, 'card_holds'). Laid BY PROGRAM, IN A SANDBOX (cutbox-door.mjs). By AI agents, Wed Nov 11 2026. No macro, syntax, notation, axiom, sorry.
-/
import Derived.Test.YtcngblnkfiggjaaDoorRows
import GoSem.ClaimSeven
namespace Go.Proofs.YtcngblnkfiggjaaDoor
namespace Rows

/-- THE TIED CARD OF 'alumlaw16.ChainCellsMatchSpec'. -/
def chainCellsMatchSpecCard : Claim7 := { stood := { row := chainCellsMatchSpecRow, standIns := [], harness := (true, "ef3174e38c3f2413618a7be4f5b81e85b025f343155e8480e7501bec56d1c7b8"), looks := false }, kinds := [], alts := [], laidByText := true, laidKinds := [.data, .data, .data, .data], laidTests := true, laidLooks := .later }
def ChainCellsMatchSpecCardSaid : Prop := Claim7.holds Tryd.pinned (.plain (OpenSpec.ofChange chainCellsMatchSpecSpec)) chainCellsMatchSpecCard

/-- THE TIED CARD OF 'alumlaw16.ChainCodesBack'. -/
def chainCodesBackCard : Claim7 := { stood := { row := chainCodesBackRow, standIns := [], harness := (true, "ef3174e38c3f2413618a7be4f5b81e85b025f343155e8480e7501bec56d1c7b8"), looks := false }, kinds := [], alts := [], laidByText := true, laidKinds := [.data, .data, .data, .data], laidTests := true, laidLooks := .later }
def ChainCodesBackCardSaid : Prop := Claim7.holds Tryd.pinned (.plain (OpenSpec.ofChange chainCodesBackSpec)) chainCodesBackCard

/-- THE TIED CARD OF 'alumlaw16.ChainSeesSnapshots'. -/
def chainSeesSnapshotsCard : Claim7 := { stood := { row := chainSeesSnapshotsRow, standIns := [], harness := (true, "ef3174e38c3f2413618a7be4f5b81e85b025f343155e8480e7501bec56d1c7b8"), looks := false }, kinds := [], alts := [], laidByText := true, laidKinds := [.data, .data, .data, .data], laidTests := true, laidLooks := .later }
def ChainSeesSnapshotsCardSaid : Prop := Claim7.holds Tryd.pinned (.plain (OpenSpec.ofChange chainSeesSnapshotsSpec)) chainSeesSnapshotsCard

/-- THE TIED CARD OF 'alumlaw10.RedoMergesMatchSpec'. -/
def redoMergesMatchSpecCard : Claim7 := { stood := { row := redoMergesMatchSpecRow, standIns := [], harness := (true, "ef3174e38c3f2413618a7be4f5b81e85b025f343155e8480e7501bec56d1c7b8"), looks := false }, kinds := [], alts := [], laidByText := true, laidKinds := [.data, .data], laidTests := true, laidLooks := .later }
def RedoMergesMatchSpecCardSaid : Prop := Claim7.holds Tryd.pinned (.plain (OpenSpec.ofChange redoMergesMatchSpecSpec)) redoMergesMatchSpecCard

/-- THE SECOND FORM's CARD OF 'alumlaw16.ChainCellsMatchSpec'. -/
def chainCellsMatchSpecUptoCard : Claim7 := { stood := { row := chainCellsMatchSpecUptoRow, standIns := [], harness := (true, "ef3174e38c3f2413618a7be4f5b81e85b025f343155e8480e7501bec56d1c7b8"), looks := false }, kinds := [], alts := [], laidByText := true, laidKinds := [.data, .data, .data, .data], laidTests := true, laidLooks := .later }
def ChainCellsMatchSpecUptoCardSaid : Prop := Claim7.holds Tryd.pinned (.plain (OpenSpec.upto chainCellsMatchSpecSpec)) chainCellsMatchSpecUptoCard

/-- THE SECOND FORM's CARD OF 'alumlaw16.ChainCodesBack'. -/
def chainCodesBackUptoCard : Claim7 := { stood := { row := chainCodesBackUptoRow, standIns := [], harness := (true, "ef3174e38c3f2413618a7be4f5b81e85b025f343155e8480e7501bec56d1c7b8"), looks := false }, kinds := [], alts := [], laidByText := true, laidKinds := [.data, .data, .data, .data], laidTests := true, laidLooks := .later }
def ChainCodesBackUptoCardSaid : Prop := Claim7.holds Tryd.pinned (.plain (OpenSpec.upto chainCodesBackSpec)) chainCodesBackUptoCard

/-- THE SECOND FORM's CARD OF 'alumlaw10.RedoMergesMatchSpec'. -/
def redoMergesMatchSpecUptoCard : Claim7 := { stood := { row := redoMergesMatchSpecUptoRow, standIns := [], harness := (true, "ef3174e38c3f2413618a7be4f5b81e85b025f343155e8480e7501bec56d1c7b8"), looks := false }, kinds := [], alts := [], laidByText := true, laidKinds := [.data, .data], laidTests := true, laidLooks := .later }
def RedoMergesMatchSpecUptoCardSaid : Prop := Claim7.holds Tryd.pinned (.plain (OpenSpec.upto redoMergesMatchSpecSpec)) redoMergesMatchSpecUptoCard
end Rows
end Go.Proofs.YtcngblnkfiggjaaDoor
