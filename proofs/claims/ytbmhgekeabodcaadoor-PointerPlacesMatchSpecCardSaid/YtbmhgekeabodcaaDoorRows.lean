/-
  NARROWER THAN 'FOR EVERY INPUT', by the rows' own cells (each row's printed sentence says how): PointerFieldsMatchSpec: laid · PointerFieldsAreApart: laid · PointerGetsStale: laid · PointerIsRead: laid · PointerMatchesSpec: laid · PointerPlacesMatchSpec: laid.
  DERIVED. THE GIVEN ROWS OF THIS SEAT. 6 by the template 'for every input the law returns true; each argument reads behind the call as it read before'; 0 by the template 'total and deterministic' (their statements: YtbmhgekeabodcaaDoorTotals.lean).
  GIVEN WITH THE SEED: the statements are not yours to turn. If you find one false, say at which input.
  Laid BY PROGRAM, IN A SANDBOX (cutbox-rows.mjs): the forced cells as the released guide's own fill.sh prints them over the translation 4da1516499d3da04… (all of the seat's roots in one cut). By AI agents, Wed Nov 11 2026. No macro, syntax, notation, axiom, sorry.
-/
import Derived.Test.YtbmhgekeabodcaaDoorChecked
import GoSem.Claim
import GoSem.ClaimJoined
import GoSem.ClaimMapViews
import Derived.JoinedTies
import Derived.KernelRfl
namespace Go.Proofs.YtbmhgekeabodcaaDoor
/- THE CELL 'sum', in the pinned program and in every row, IS THE sha256 OF THE DUMP (.gsa) THAT YtbmhgekeabodcaaDoorProg.lean LOADS. Nothing in Lean hashes anything: it is a label: what it is worth is what the hold of that sum in a sandbox is worth. -/
noncomputable def Tryd.pinned : Pinned := { name := "ytbmhgekeabodcaadoor", sum := "4da1516499d3da04bbf4c678f90dbdf6b957e8dbcd4780dc3d7424a6e67f70e1", checked := Tryd.checked }
namespace Rows
def none {H : Type} : Left H := { results := [], args := [] }

/- WHAT THE LISTED PACKAGE-LEVEL VARIABLES READ AS WHEN THE CALL BEGINS. Each datum BY PROGRAM (the guide's laid-datum.mjs) off the statement by which the dump's own 'gosem.cut.vars' lays the variable. In a bare row this is a premise. The card (YtbmhgekeabodcaaDoorCards.lean) ties it to the program's text. -/
def laid_alum_pointer_pointers {H : Type} : DataW H := .agg [.agg [.lit (.int .i64 0), .lit (.int .i64 12)], .agg [.lit (.int .i64 12), .lit (.int .i64 20)]]
def laid_alum_pointer_headers {H : Type} : DataW H := .agg [.agg [.lit (.int .i64 0), .lit (.int .i64 4)], .agg [.lit (.int .i64 4), .lit (.int .i64 3)], .agg [.lit (.int .i64 7), .lit (.int .i64 20)]]

/-- 'alumlaw07.PointerFieldsMatchSpec': WHATEVER THE INPUT: true; the input reads as it did. -/
def pointerFieldsMatchSpecSpec : ChangeSpec := { name := "pointerFieldsMatchSpec", fn := fun _ => fun
  | [d1, d2, d3, d4] => { results := [.lit (.bool true)], args := [d1, d2, d3, d4] }
  | _ => none }
def pointerFieldsMatchSpecRow : OpenClaim := { program := "ytbmhgekeabodcaadoor", sum := "4da1516499d3da04bbf4c678f90dbdf6b957e8dbcd4780dc3d7424a6e67f70e1", func := "alum/alumlaw07.PointerFieldsMatchSpec", spec := "pointerFieldsMatchSpec", unfollowed := true, recurses := true, named := ["alum/pointer.pointers", "alum/pointer.headers"], apart := false, laid := [("alum/pointer.pointers", laid_alum_pointer_pointers), ("alum/pointer.headers", laid_alum_pointer_headers)] }
def PointerFieldsMatchSpecSaid : Prop := pointerFieldsMatchSpecRow.holds Tryd.pinned (OpenSpec.ofChange pointerFieldsMatchSpecSpec)

/-- ITS FALSE NEIGHBOUR: 'it returns false'. Refute it at one input. -/
def pointerFieldsMatchSpecWrong : ChangeSpec := { name := "pointerFieldsMatchSpec", fn := fun _ => fun
  | [d1, d2, d3, d4] => { results := [.lit (.bool false)], args := [d1, d2, d3, d4] }
  | _ => none }
def PointerFieldsMatchSpecWrongFalsely : Prop := pointerFieldsMatchSpecRow.holds Tryd.pinned (OpenSpec.ofChange pointerFieldsMatchSpecWrong)

/-- 'alumlaw07.PointerFieldsAreApart': WHATEVER THE INPUT: true; the input reads as it did. -/
def pointerFieldsAreApartSpec : ChangeSpec := { name := "pointerFieldsAreApart", fn := fun _ => fun
  | [d1, d2, d3, d4, d5, d6, d7] => { results := [.lit (.bool true)], args := [d1, d2, d3, d4, d5, d6, d7] }
  | _ => none }
def pointerFieldsAreApartRow : OpenClaim := { program := "ytbmhgekeabodcaadoor", sum := "4da1516499d3da04bbf4c678f90dbdf6b957e8dbcd4780dc3d7424a6e67f70e1", func := "alum/alumlaw07.PointerFieldsAreApart", spec := "pointerFieldsAreApart", unfollowed := true, recurses := true, named := ["alum/pointer.pointers", "alum/pointer.headers"], apart := false, laid := [("alum/pointer.pointers", laid_alum_pointer_pointers), ("alum/pointer.headers", laid_alum_pointer_headers)] }
def PointerFieldsAreApartSaid : Prop := pointerFieldsAreApartRow.holds Tryd.pinned (OpenSpec.ofChange pointerFieldsAreApartSpec)

/-- ITS FALSE NEIGHBOUR: 'it returns false'. Refute it at one input. -/
def pointerFieldsAreApartWrong : ChangeSpec := { name := "pointerFieldsAreApart", fn := fun _ => fun
  | [d1, d2, d3, d4, d5, d6, d7] => { results := [.lit (.bool false)], args := [d1, d2, d3, d4, d5, d6, d7] }
  | _ => none }
def PointerFieldsAreApartWrongFalsely : Prop := pointerFieldsAreApartRow.holds Tryd.pinned (OpenSpec.ofChange pointerFieldsAreApartWrong)

/-- 'alumlaw07.PointerGetsStale': WHATEVER THE INPUT: true; the input reads as it did. -/
def pointerGetsStaleSpec : ChangeSpec := { name := "pointerGetsStale", fn := fun _ => fun
  | [d1, d2, d3, d4, d5] => { results := [.lit (.bool true)], args := [d1, d2, d3, d4, d5] }
  | _ => none }
def pointerGetsStaleRow : OpenClaim := { program := "ytbmhgekeabodcaadoor", sum := "4da1516499d3da04bbf4c678f90dbdf6b957e8dbcd4780dc3d7424a6e67f70e1", func := "alum/alumlaw07.PointerGetsStale", spec := "pointerGetsStale", unfollowed := true, recurses := true, named := ["alum/pointer.pointers", "alum/pointer.headers"], apart := false, laid := [("alum/pointer.pointers", laid_alum_pointer_pointers), ("alum/pointer.headers", laid_alum_pointer_headers)] }
def PointerGetsStaleSaid : Prop := pointerGetsStaleRow.holds Tryd.pinned (OpenSpec.ofChange pointerGetsStaleSpec)

/-- ITS FALSE NEIGHBOUR: 'it returns false'. Refute it at one input. -/
def pointerGetsStaleWrong : ChangeSpec := { name := "pointerGetsStale", fn := fun _ => fun
  | [d1, d2, d3, d4, d5] => { results := [.lit (.bool false)], args := [d1, d2, d3, d4, d5] }
  | _ => none }
def PointerGetsStaleWrongFalsely : Prop := pointerGetsStaleRow.holds Tryd.pinned (OpenSpec.ofChange pointerGetsStaleWrong)

/-- 'alumlaw07.PointerIsRead': WHATEVER THE INPUT: true; the input reads as it did. -/
def pointerIsReadSpec : ChangeSpec := { name := "pointerIsRead", fn := fun _ => fun
  | [d1, d2, d3, d4] => { results := [.lit (.bool true)], args := [d1, d2, d3, d4] }
  | _ => none }
def pointerIsReadRow : OpenClaim := { program := "ytbmhgekeabodcaadoor", sum := "4da1516499d3da04bbf4c678f90dbdf6b957e8dbcd4780dc3d7424a6e67f70e1", func := "alum/alumlaw07.PointerIsRead", spec := "pointerIsRead", unfollowed := true, recurses := true, named := ["alum/pointer.pointers", "alum/pointer.headers"], apart := false, laid := [("alum/pointer.pointers", laid_alum_pointer_pointers), ("alum/pointer.headers", laid_alum_pointer_headers)] }
def PointerIsReadSaid : Prop := pointerIsReadRow.holds Tryd.pinned (OpenSpec.ofChange pointerIsReadSpec)

/-- ITS FALSE NEIGHBOUR: 'it returns false'. Refute it at one input. -/
def pointerIsReadWrong : ChangeSpec := { name := "pointerIsRead", fn := fun _ => fun
  | [d1, d2, d3, d4] => { results := [.lit (.bool false)], args := [d1, d2, d3, d4] }
  | _ => none }
def PointerIsReadWrongFalsely : Prop := pointerIsReadRow.holds Tryd.pinned (OpenSpec.ofChange pointerIsReadWrong)

/-- 'alumlaw07.PointerMatchesSpec': WHATEVER THE INPUT: true; the input reads as it did. -/
def pointerMatchesSpecSpec : ChangeSpec := { name := "pointerMatchesSpec", fn := fun _ => fun
  | [d1, d2, d3] => { results := [.lit (.bool true)], args := [d1, d2, d3] }
  | _ => none }
def pointerMatchesSpecRow : OpenClaim := { program := "ytbmhgekeabodcaadoor", sum := "4da1516499d3da04bbf4c678f90dbdf6b957e8dbcd4780dc3d7424a6e67f70e1", func := "alum/alumlaw07.PointerMatchesSpec", spec := "pointerMatchesSpec", unfollowed := true, recurses := true, named := ["alum/pointer.pointers", "alum/pointer.headers"], apart := false, laid := [("alum/pointer.pointers", laid_alum_pointer_pointers), ("alum/pointer.headers", laid_alum_pointer_headers)] }
def PointerMatchesSpecSaid : Prop := pointerMatchesSpecRow.holds Tryd.pinned (OpenSpec.ofChange pointerMatchesSpecSpec)

/-- ITS FALSE NEIGHBOUR: 'it returns false'. Refute it at one input. -/
def pointerMatchesSpecWrong : ChangeSpec := { name := "pointerMatchesSpec", fn := fun _ => fun
  | [d1, d2, d3] => { results := [.lit (.bool false)], args := [d1, d2, d3] }
  | _ => none }
def PointerMatchesSpecWrongFalsely : Prop := pointerMatchesSpecRow.holds Tryd.pinned (OpenSpec.ofChange pointerMatchesSpecWrong)

/-- 'alumlaw07.PointerPlacesMatchSpec': WHATEVER THE INPUT: true; the input reads as it did. -/
def pointerPlacesMatchSpecSpec : ChangeSpec := { name := "pointerPlacesMatchSpec", fn := fun _ => fun
  | [d1, d2, d3, d4] => { results := [.lit (.bool true)], args := [d1, d2, d3, d4] }
  | _ => none }
def pointerPlacesMatchSpecRow : OpenClaim := { program := "ytbmhgekeabodcaadoor", sum := "4da1516499d3da04bbf4c678f90dbdf6b957e8dbcd4780dc3d7424a6e67f70e1", func := "alum/alumlaw07.PointerPlacesMatchSpec", spec := "pointerPlacesMatchSpec", unfollowed := true, recurses := true, named := ["alum/pointer.pointers", "alum/pointer.headers"], apart := false, laid := [("alum/pointer.pointers", laid_alum_pointer_pointers), ("alum/pointer.headers", laid_alum_pointer_headers)] }
def PointerPlacesMatchSpecSaid : Prop := pointerPlacesMatchSpecRow.holds Tryd.pinned (OpenSpec.ofChange pointerPlacesMatchSpecSpec)

/-- ITS FALSE NEIGHBOUR: 'it returns false'. Refute it at one input. -/
def pointerPlacesMatchSpecWrong : ChangeSpec := { name := "pointerPlacesMatchSpec", fn := fun _ => fun
  | [d1, d2, d3, d4] => { results := [.lit (.bool false)], args := [d1, d2, d3, d4] }
  | _ => none }
def PointerPlacesMatchSpecWrongFalsely : Prop := pointerPlacesMatchSpecRow.holds Tryd.pinned (OpenSpec.ofChange pointerPlacesMatchSpecWrong)

/- THE SECOND FORM. 'bulk': how many values and letters a reading holds, each counted each time it is reached (what is shared counts as often as it is met; a slice's spare places count too). A statement '..UptoSaid' is the law's where the arguments, and the package variables that the reading takes, are together of bulk at most 1048576: NARROWER than '..Said'. Prove '..Said' where nothing that the law and all that it calls make is longer than what came in: it says more and counts as full. Else prove '..UptoSaid'. A law counts once. -/
mutual
def uptoBulk {H : Type} : DataW H → Nat
  | .lit (.string bytes) => bytes.length + 1
  | .lit _ => 1
  | .nil => 1
  | .ptr d => uptoBulk d + 1
  | .slice elems spare => uptoBulkAll elems + uptoBulkAll spare + 1
  | .agg parts => uptoBulkAll parts + 1
  | .iface _ d => uptoBulk d + 1
  | .map entries => uptoBulkEntries entries + 1
  | .held _ => 1
def uptoBulkAll {H : Type} : List (DataW H) → Nat
  | [] => 0
  | d :: r => uptoBulk d + uptoBulkAll r
def uptoBulkEntries {H : Type} : List (Lit × DataW H) → Nat
  | [] => 0
  | x :: r => uptoBulkEntry x + uptoBulkEntries r
def uptoBulkEntry {H : Type} : Lit × DataW H → Nat
  | (.string bytes, d) => bytes.length + uptoBulk d + 1
  | (_, d) => uptoBulk d + 1
 end
def uptoSmall : (H : Type) → List (DataW H) → Bool := fun _ ds => decide (uptoBulkAll ds ≤ 1048576)
def OpenSpec.upto (s : _root_.Go.ChangeSpec) : _root_.Go.OpenSpec := { _root_.Go.OpenSpec.ofChange s with cond := some uptoSmall }

/-- 'alumlaw07.PointerFieldsMatchSpec', WHERE WHAT IT READS IS OF BULK AT MOST 1048576: true; the input reads as it did. -/
def pointerFieldsMatchSpecUptoRow : OpenClaim := { program := "ytbmhgekeabodcaadoor", sum := "4da1516499d3da04bbf4c678f90dbdf6b957e8dbcd4780dc3d7424a6e67f70e1", func := "alum/alumlaw07.PointerFieldsMatchSpec", spec := "pointerFieldsMatchSpec", unfollowed := true, recurses := true, named := ["alum/pointer.pointers", "alum/pointer.headers"], apart := false, laid := [("alum/pointer.pointers", laid_alum_pointer_pointers), ("alum/pointer.headers", laid_alum_pointer_headers)], narrowed := true }
def PointerFieldsMatchSpecUptoSaid : Prop := pointerFieldsMatchSpecUptoRow.holds Tryd.pinned (OpenSpec.upto pointerFieldsMatchSpecSpec)

/-- 'alumlaw07.PointerFieldsAreApart', WHERE WHAT IT READS IS OF BULK AT MOST 1048576: true; the input reads as it did. -/
def pointerFieldsAreApartUptoRow : OpenClaim := { program := "ytbmhgekeabodcaadoor", sum := "4da1516499d3da04bbf4c678f90dbdf6b957e8dbcd4780dc3d7424a6e67f70e1", func := "alum/alumlaw07.PointerFieldsAreApart", spec := "pointerFieldsAreApart", unfollowed := true, recurses := true, named := ["alum/pointer.pointers", "alum/pointer.headers"], apart := false, laid := [("alum/pointer.pointers", laid_alum_pointer_pointers), ("alum/pointer.headers", laid_alum_pointer_headers)], narrowed := true }
def PointerFieldsAreApartUptoSaid : Prop := pointerFieldsAreApartUptoRow.holds Tryd.pinned (OpenSpec.upto pointerFieldsAreApartSpec)

/-- 'alumlaw07.PointerGetsStale', WHERE WHAT IT READS IS OF BULK AT MOST 1048576: true; the input reads as it did. -/
def pointerGetsStaleUptoRow : OpenClaim := { program := "ytbmhgekeabodcaadoor", sum := "4da1516499d3da04bbf4c678f90dbdf6b957e8dbcd4780dc3d7424a6e67f70e1", func := "alum/alumlaw07.PointerGetsStale", spec := "pointerGetsStale", unfollowed := true, recurses := true, named := ["alum/pointer.pointers", "alum/pointer.headers"], apart := false, laid := [("alum/pointer.pointers", laid_alum_pointer_pointers), ("alum/pointer.headers", laid_alum_pointer_headers)], narrowed := true }
def PointerGetsStaleUptoSaid : Prop := pointerGetsStaleUptoRow.holds Tryd.pinned (OpenSpec.upto pointerGetsStaleSpec)

/-- 'alumlaw07.PointerIsRead', WHERE WHAT IT READS IS OF BULK AT MOST 1048576: true; the input reads as it did. -/
def pointerIsReadUptoRow : OpenClaim := { program := "ytbmhgekeabodcaadoor", sum := "4da1516499d3da04bbf4c678f90dbdf6b957e8dbcd4780dc3d7424a6e67f70e1", func := "alum/alumlaw07.PointerIsRead", spec := "pointerIsRead", unfollowed := true, recurses := true, named := ["alum/pointer.pointers", "alum/pointer.headers"], apart := false, laid := [("alum/pointer.pointers", laid_alum_pointer_pointers), ("alum/pointer.headers", laid_alum_pointer_headers)], narrowed := true }
def PointerIsReadUptoSaid : Prop := pointerIsReadUptoRow.holds Tryd.pinned (OpenSpec.upto pointerIsReadSpec)

/-- 'alumlaw07.PointerMatchesSpec', WHERE WHAT IT READS IS OF BULK AT MOST 1048576: true; the input reads as it did. -/
def pointerMatchesSpecUptoRow : OpenClaim := { program := "ytbmhgekeabodcaadoor", sum := "4da1516499d3da04bbf4c678f90dbdf6b957e8dbcd4780dc3d7424a6e67f70e1", func := "alum/alumlaw07.PointerMatchesSpec", spec := "pointerMatchesSpec", unfollowed := true, recurses := true, named := ["alum/pointer.pointers", "alum/pointer.headers"], apart := false, laid := [("alum/pointer.pointers", laid_alum_pointer_pointers), ("alum/pointer.headers", laid_alum_pointer_headers)], narrowed := true }
def PointerMatchesSpecUptoSaid : Prop := pointerMatchesSpecUptoRow.holds Tryd.pinned (OpenSpec.upto pointerMatchesSpecSpec)

/-- 'alumlaw07.PointerPlacesMatchSpec', WHERE WHAT IT READS IS OF BULK AT MOST 1048576: true; the input reads as it did. -/
def pointerPlacesMatchSpecUptoRow : OpenClaim := { program := "ytbmhgekeabodcaadoor", sum := "4da1516499d3da04bbf4c678f90dbdf6b957e8dbcd4780dc3d7424a6e67f70e1", func := "alum/alumlaw07.PointerPlacesMatchSpec", spec := "pointerPlacesMatchSpec", unfollowed := true, recurses := true, named := ["alum/pointer.pointers", "alum/pointer.headers"], apart := false, laid := [("alum/pointer.pointers", laid_alum_pointer_pointers), ("alum/pointer.headers", laid_alum_pointer_headers)], narrowed := true }
def PointerPlacesMatchSpecUptoSaid : Prop := pointerPlacesMatchSpecUptoRow.holds Tryd.pinned (OpenSpec.upto pointerPlacesMatchSpecSpec)

end Rows
end Go.Proofs.YtbmhgekeabodcaaDoor
