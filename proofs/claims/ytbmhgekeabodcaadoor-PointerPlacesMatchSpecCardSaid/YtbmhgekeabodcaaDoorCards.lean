/-
  DERIVED. GIVEN WITH THE SEED: THE CARDS: each row of YtbmhgekeabodcaaDoorRows.lean that lists a variable, with what it lists TIED to the program's text (the seventh form; the later family's looks); each row that meets fmt, with fmt's text TOLD by the authors' own Lean function (tested against real Go, not proved from fmt's source: count such statements apart). THE CARD IS WHAT COUNTS. Prove the row's statement (the work); the ties are given (YtbmhgekeabodcaaDoorTie.lean); close each card by the builder's one call (the guide's Derived/Test/ToyasCard.lean, 'card_holds'). Laid BY PROGRAM, IN A SANDBOX (cutbox-door.mjs). By AI agents, Wed Nov 11 2026. No macro, syntax, notation, axiom, sorry.
-/
import Derived.Test.YtbmhgekeabodcaaDoorRows
import GoSem.ClaimSeven
namespace Go.Proofs.YtbmhgekeabodcaaDoor
namespace Rows

/-- THE TIED CARD OF 'alumlaw07.PointerFieldsMatchSpec'. -/
def pointerFieldsMatchSpecCard : Claim7 := { stood := { row := pointerFieldsMatchSpecRow, standIns := [], harness := (true, "793d9162eb9c32ccf52414ce8530e4bf4f869b1716bde1fc35135ad9ee0d61d9"), looks := false }, kinds := [], alts := [], laidByText := true, laidKinds := [.data, .data], laidTests := true, laidLooks := .later }
def PointerFieldsMatchSpecCardSaid : Prop := Claim7.holds Tryd.pinned (.plain (OpenSpec.ofChange pointerFieldsMatchSpecSpec)) pointerFieldsMatchSpecCard

/-- THE TIED CARD OF 'alumlaw07.PointerFieldsAreApart'. -/
def pointerFieldsAreApartCard : Claim7 := { stood := { row := pointerFieldsAreApartRow, standIns := [], harness := (true, "793d9162eb9c32ccf52414ce8530e4bf4f869b1716bde1fc35135ad9ee0d61d9"), looks := false }, kinds := [], alts := [], laidByText := true, laidKinds := [.data, .data], laidTests := true, laidLooks := .later }
def PointerFieldsAreApartCardSaid : Prop := Claim7.holds Tryd.pinned (.plain (OpenSpec.ofChange pointerFieldsAreApartSpec)) pointerFieldsAreApartCard

/-- THE TIED CARD OF 'alumlaw07.PointerGetsStale'. -/
def pointerGetsStaleCard : Claim7 := { stood := { row := pointerGetsStaleRow, standIns := [], harness := (true, "793d9162eb9c32ccf52414ce8530e4bf4f869b1716bde1fc35135ad9ee0d61d9"), looks := false }, kinds := [], alts := [], laidByText := true, laidKinds := [.data, .data], laidTests := true, laidLooks := .later }
def PointerGetsStaleCardSaid : Prop := Claim7.holds Tryd.pinned (.plain (OpenSpec.ofChange pointerGetsStaleSpec)) pointerGetsStaleCard

/-- THE TIED CARD OF 'alumlaw07.PointerIsRead'. -/
def pointerIsReadCard : Claim7 := { stood := { row := pointerIsReadRow, standIns := [], harness := (true, "793d9162eb9c32ccf52414ce8530e4bf4f869b1716bde1fc35135ad9ee0d61d9"), looks := false }, kinds := [], alts := [], laidByText := true, laidKinds := [.data, .data], laidTests := true, laidLooks := .later }
def PointerIsReadCardSaid : Prop := Claim7.holds Tryd.pinned (.plain (OpenSpec.ofChange pointerIsReadSpec)) pointerIsReadCard

/-- THE TIED CARD OF 'alumlaw07.PointerMatchesSpec'. -/
def pointerMatchesSpecCard : Claim7 := { stood := { row := pointerMatchesSpecRow, standIns := [], harness := (true, "793d9162eb9c32ccf52414ce8530e4bf4f869b1716bde1fc35135ad9ee0d61d9"), looks := false }, kinds := [], alts := [], laidByText := true, laidKinds := [.data, .data], laidTests := true, laidLooks := .later }
def PointerMatchesSpecCardSaid : Prop := Claim7.holds Tryd.pinned (.plain (OpenSpec.ofChange pointerMatchesSpecSpec)) pointerMatchesSpecCard

/-- THE TIED CARD OF 'alumlaw07.PointerPlacesMatchSpec'. -/
def pointerPlacesMatchSpecCard : Claim7 := { stood := { row := pointerPlacesMatchSpecRow, standIns := [], harness := (true, "793d9162eb9c32ccf52414ce8530e4bf4f869b1716bde1fc35135ad9ee0d61d9"), looks := false }, kinds := [], alts := [], laidByText := true, laidKinds := [.data, .data], laidTests := true, laidLooks := .later }
def PointerPlacesMatchSpecCardSaid : Prop := Claim7.holds Tryd.pinned (.plain (OpenSpec.ofChange pointerPlacesMatchSpecSpec)) pointerPlacesMatchSpecCard

/-- THE SECOND FORM's CARD OF 'alumlaw07.PointerFieldsMatchSpec'. -/
def pointerFieldsMatchSpecUptoCard : Claim7 := { stood := { row := pointerFieldsMatchSpecUptoRow, standIns := [], harness := (true, "793d9162eb9c32ccf52414ce8530e4bf4f869b1716bde1fc35135ad9ee0d61d9"), looks := false }, kinds := [], alts := [], laidByText := true, laidKinds := [.data, .data], laidTests := true, laidLooks := .later }
def PointerFieldsMatchSpecUptoCardSaid : Prop := Claim7.holds Tryd.pinned (.plain (OpenSpec.upto pointerFieldsMatchSpecSpec)) pointerFieldsMatchSpecUptoCard

/-- THE SECOND FORM's CARD OF 'alumlaw07.PointerFieldsAreApart'. -/
def pointerFieldsAreApartUptoCard : Claim7 := { stood := { row := pointerFieldsAreApartUptoRow, standIns := [], harness := (true, "793d9162eb9c32ccf52414ce8530e4bf4f869b1716bde1fc35135ad9ee0d61d9"), looks := false }, kinds := [], alts := [], laidByText := true, laidKinds := [.data, .data], laidTests := true, laidLooks := .later }
def PointerFieldsAreApartUptoCardSaid : Prop := Claim7.holds Tryd.pinned (.plain (OpenSpec.upto pointerFieldsAreApartSpec)) pointerFieldsAreApartUptoCard

/-- THE SECOND FORM's CARD OF 'alumlaw07.PointerGetsStale'. -/
def pointerGetsStaleUptoCard : Claim7 := { stood := { row := pointerGetsStaleUptoRow, standIns := [], harness := (true, "793d9162eb9c32ccf52414ce8530e4bf4f869b1716bde1fc35135ad9ee0d61d9"), looks := false }, kinds := [], alts := [], laidByText := true, laidKinds := [.data, .data], laidTests := true, laidLooks := .later }
def PointerGetsStaleUptoCardSaid : Prop := Claim7.holds Tryd.pinned (.plain (OpenSpec.upto pointerGetsStaleSpec)) pointerGetsStaleUptoCard

/-- THE SECOND FORM's CARD OF 'alumlaw07.PointerIsRead'. -/
def pointerIsReadUptoCard : Claim7 := { stood := { row := pointerIsReadUptoRow, standIns := [], harness := (true, "793d9162eb9c32ccf52414ce8530e4bf4f869b1716bde1fc35135ad9ee0d61d9"), looks := false }, kinds := [], alts := [], laidByText := true, laidKinds := [.data, .data], laidTests := true, laidLooks := .later }
def PointerIsReadUptoCardSaid : Prop := Claim7.holds Tryd.pinned (.plain (OpenSpec.upto pointerIsReadSpec)) pointerIsReadUptoCard

/-- THE SECOND FORM's CARD OF 'alumlaw07.PointerMatchesSpec'. -/
def pointerMatchesSpecUptoCard : Claim7 := { stood := { row := pointerMatchesSpecUptoRow, standIns := [], harness := (true, "793d9162eb9c32ccf52414ce8530e4bf4f869b1716bde1fc35135ad9ee0d61d9"), looks := false }, kinds := [], alts := [], laidByText := true, laidKinds := [.data, .data], laidTests := true, laidLooks := .later }
def PointerMatchesSpecUptoCardSaid : Prop := Claim7.holds Tryd.pinned (.plain (OpenSpec.upto pointerMatchesSpecSpec)) pointerMatchesSpecUptoCard

/-- THE SECOND FORM's CARD OF 'alumlaw07.PointerPlacesMatchSpec'. -/
def pointerPlacesMatchSpecUptoCard : Claim7 := { stood := { row := pointerPlacesMatchSpecUptoRow, standIns := [], harness := (true, "793d9162eb9c32ccf52414ce8530e4bf4f869b1716bde1fc35135ad9ee0d61d9"), looks := false }, kinds := [], alts := [], laidByText := true, laidKinds := [.data, .data], laidTests := true, laidLooks := .later }
def PointerPlacesMatchSpecUptoCardSaid : Prop := Claim7.holds Tryd.pinned (.plain (OpenSpec.upto pointerPlacesMatchSpecSpec)) pointerPlacesMatchSpecUptoCard
end Rows
end Go.Proofs.YtbmhgekeabodcaaDoor
