/-
  No cell of these rows narrows 'for every input' (looked for: loops, veiled, ifaces, maps, wideKeys, modest, calm, conditions, laid).
  DERIVED. THE GIVEN ROWS OF THIS SEAT. 4 by the template 'for every input the law returns true; each argument reads behind the call as it read before'; 0 by the template 'total and deterministic' (their statements: YtphmfmfbneoljaaTotals.lean).
  GIVEN WITH THE SEED: the statements are not yours to turn. If you find one false, say at which input.
  Laid BY PROGRAM, IN A SANDBOX (cutbox-rows.mjs): the forced cells as the released guide's own fill.sh prints them over the translation 351d44195d703b9f… (all of the seat's roots in one cut). By AI agents, Wed Nov 11 2026. No macro, syntax, notation, axiom, sorry.
-/
import Derived.Test.YtphmfmfbneoljaaChecked
import GoSem.Claim
import GoSem.ClaimJoined
import GoSem.ClaimMapViews
import Derived.JoinedTies
import Derived.KernelRfl
namespace Go.Proofs.Ytphmfmfbneoljaa
/- THE CELL 'sum', in the pinned program and in every row, IS THE sha256 OF THE DUMP (.gsa) THAT YtphmfmfbneoljaaProg.lean LOADS. Nothing in Lean hashes anything: it is a label: what it is worth is what the hold of that sum in a sandbox is worth. -/
noncomputable def Try.pinned : Pinned := { name := "ytphmfmfbneoljaa", sum := "351d44195d703b9f1b6913eedcb58c4c9da0c703ade002eac93ad33897b59807", checked := Try.checked }
namespace Rows
def none {H : Type} : Left H := { results := [], args := [] }

/-- 'alumlaw17.EpochMatchesSpec': WHATEVER THE INPUT: true; the input reads as it did. -/
def epochMatchesSpecSpec : ChangeSpec := { name := "epochMatchesSpec", fn := fun _ => fun
  | [d] => { results := [.lit (.bool true)], args := [d] }
  | _ => none }
def epochMatchesSpecRow : OpenClaim := { program := "ytphmfmfbneoljaa", sum := "351d44195d703b9f1b6913eedcb58c4c9da0c703ade002eac93ad33897b59807", func := "alum/alumlaw17.EpochMatchesSpec", spec := "epochMatchesSpec", unfollowed := true, recurses := true, apart := false }
def EpochMatchesSpecSaid : Prop := epochMatchesSpecRow.holds Try.pinned (OpenSpec.ofChange epochMatchesSpecSpec)

/-- ITS FALSE NEIGHBOUR: 'it returns false'. Refute it at one input. -/
def epochMatchesSpecWrong : ChangeSpec := { name := "epochMatchesSpec", fn := fun _ => fun
  | [d] => { results := [.lit (.bool false)], args := [d] }
  | _ => none }
def EpochMatchesSpecWrongFalsely : Prop := epochMatchesSpecRow.holds Try.pinned (OpenSpec.ofChange epochMatchesSpecWrong)

/-- 'alumlaw17.EpochFreesNoHeldBlock': WHATEVER THE INPUT: true; the input reads as it did. -/
def epochFreesNoHeldBlockSpec : ChangeSpec := { name := "epochFreesNoHeldBlock", fn := fun _ => fun
  | [d] => { results := [.lit (.bool true)], args := [d] }
  | _ => none }
def epochFreesNoHeldBlockRow : OpenClaim := { program := "ytphmfmfbneoljaa", sum := "351d44195d703b9f1b6913eedcb58c4c9da0c703ade002eac93ad33897b59807", func := "alum/alumlaw17.EpochFreesNoHeldBlock", spec := "epochFreesNoHeldBlock", unfollowed := true, recurses := true, apart := false }
def EpochFreesNoHeldBlockSaid : Prop := epochFreesNoHeldBlockRow.holds Try.pinned (OpenSpec.ofChange epochFreesNoHeldBlockSpec)

/-- ITS FALSE NEIGHBOUR: 'it returns false'. Refute it at one input. -/
def epochFreesNoHeldBlockWrong : ChangeSpec := { name := "epochFreesNoHeldBlock", fn := fun _ => fun
  | [d] => { results := [.lit (.bool false)], args := [d] }
  | _ => none }
def EpochFreesNoHeldBlockWrongFalsely : Prop := epochFreesNoHeldBlockRow.holds Try.pinned (OpenSpec.ofChange epochFreesNoHeldBlockWrong)

/-- 'alumlaw17.EpochFreesAllInTheEnd': WHATEVER THE INPUT: true; the input reads as it did. -/
def epochFreesAllInTheEndSpec : ChangeSpec := { name := "epochFreesAllInTheEnd", fn := fun _ => fun
  | [d] => { results := [.lit (.bool true)], args := [d] }
  | _ => none }
def epochFreesAllInTheEndRow : OpenClaim := { program := "ytphmfmfbneoljaa", sum := "351d44195d703b9f1b6913eedcb58c4c9da0c703ade002eac93ad33897b59807", func := "alum/alumlaw17.EpochFreesAllInTheEnd", spec := "epochFreesAllInTheEnd", unfollowed := true, recurses := true, apart := false }
def EpochFreesAllInTheEndSaid : Prop := epochFreesAllInTheEndRow.holds Try.pinned (OpenSpec.ofChange epochFreesAllInTheEndSpec)

/-- ITS FALSE NEIGHBOUR: 'it returns false'. Refute it at one input. -/
def epochFreesAllInTheEndWrong : ChangeSpec := { name := "epochFreesAllInTheEnd", fn := fun _ => fun
  | [d] => { results := [.lit (.bool false)], args := [d] }
  | _ => none }
def EpochFreesAllInTheEndWrongFalsely : Prop := epochFreesAllInTheEndRow.holds Try.pinned (OpenSpec.ofChange epochFreesAllInTheEndWrong)

/-- 'alumlaw17.EpochWaitsForReaders': WHATEVER THE INPUT: true; the input reads as it did. -/
def epochWaitsForReadersSpec : ChangeSpec := { name := "epochWaitsForReaders", fn := fun _ => fun
  | [d1, d2, d3, d4] => { results := [.lit (.bool true)], args := [d1, d2, d3, d4] }
  | _ => none }
def epochWaitsForReadersRow : OpenClaim := { program := "ytphmfmfbneoljaa", sum := "351d44195d703b9f1b6913eedcb58c4c9da0c703ade002eac93ad33897b59807", func := "alum/alumlaw17.EpochWaitsForReaders", spec := "epochWaitsForReaders", unfollowed := true, recurses := true, apart := false }
def EpochWaitsForReadersSaid : Prop := epochWaitsForReadersRow.holds Try.pinned (OpenSpec.ofChange epochWaitsForReadersSpec)

/-- ITS FALSE NEIGHBOUR: 'it returns false'. Refute it at one input. -/
def epochWaitsForReadersWrong : ChangeSpec := { name := "epochWaitsForReaders", fn := fun _ => fun
  | [d1, d2, d3, d4] => { results := [.lit (.bool false)], args := [d1, d2, d3, d4] }
  | _ => none }
def EpochWaitsForReadersWrongFalsely : Prop := epochWaitsForReadersRow.holds Try.pinned (OpenSpec.ofChange epochWaitsForReadersWrong)

/- THE SECOND FORM. 'bulk': how many values and letters a reading holds, each counted each time it is reached (what is shared counts as often as it is met; a slice's spare places count too). A statement '..UptoSaid' is the law's where the arguments, and the package variables that the reading takes, are together of bulk at most 1048576: NARROWER than '..Said'. Prove '..Said' where nothing that the law and all that it calls make is longer than what came in: it says more and counts as full. Else prove '..UptoSaid'. A law counts once. -/
mutual
def uptoBulk {H : Type} : DataW H → Nat
  | .lit (.string bytes) => bytes.length + 1
  | .lit _ => 1
  | .nil => 1
  | .ptr d => uptoBulk d + 1
  | .slice elems spare => uptoBulkAll elems + uptoBulkAll spare + 1
  | .agg parts => uptoBulkAll parts + 1
  | .iface _ d => uptoBulk d + 1
  | .map entries => uptoBulkEntries entries + 1
  | .held _ => 1
def uptoBulkAll {H : Type} : List (DataW H) → Nat
  | [] => 0
  | d :: r => uptoBulk d + uptoBulkAll r
def uptoBulkEntries {H : Type} : List (Lit × DataW H) → Nat
  | [] => 0
  | x :: r => uptoBulkEntry x + uptoBulkEntries r
def uptoBulkEntry {H : Type} : Lit × DataW H → Nat
  | (.string bytes, d) => bytes.length + uptoBulk d + 1
  | (_, d) => uptoBulk d + 1
 end
def uptoSmall : (H : Type) → List (DataW H) → Bool := fun _ ds => decide (uptoBulkAll ds ≤ 1048576)
def OpenSpec.upto (s : _root_.Go.ChangeSpec) : _root_.Go.OpenSpec := { _root_.Go.OpenSpec.ofChange s with cond := some uptoSmall }

/-- 'alumlaw17.EpochMatchesSpec', WHERE WHAT IT READS IS OF BULK AT MOST 1048576: true; the input reads as it did. -/
def epochMatchesSpecUptoRow : OpenClaim := { program := "ytphmfmfbneoljaa", sum := "351d44195d703b9f1b6913eedcb58c4c9da0c703ade002eac93ad33897b59807", func := "alum/alumlaw17.EpochMatchesSpec", spec := "epochMatchesSpec", unfollowed := true, recurses := true, apart := false, narrowed := true }
def EpochMatchesSpecUptoSaid : Prop := epochMatchesSpecUptoRow.holds Try.pinned (OpenSpec.upto epochMatchesSpecSpec)

/-- 'alumlaw17.EpochFreesNoHeldBlock', WHERE WHAT IT READS IS OF BULK AT MOST 1048576: true; the input reads as it did. -/
def epochFreesNoHeldBlockUptoRow : OpenClaim := { program := "ytphmfmfbneoljaa", sum := "351d44195d703b9f1b6913eedcb58c4c9da0c703ade002eac93ad33897b59807", func := "alum/alumlaw17.EpochFreesNoHeldBlock", spec := "epochFreesNoHeldBlock", unfollowed := true, recurses := true, apart := false, narrowed := true }
def EpochFreesNoHeldBlockUptoSaid : Prop := epochFreesNoHeldBlockUptoRow.holds Try.pinned (OpenSpec.upto epochFreesNoHeldBlockSpec)

/-- 'alumlaw17.EpochFreesAllInTheEnd', WHERE WHAT IT READS IS OF BULK AT MOST 1048576: true; the input reads as it did. -/
def epochFreesAllInTheEndUptoRow : OpenClaim := { program := "ytphmfmfbneoljaa", sum := "351d44195d703b9f1b6913eedcb58c4c9da0c703ade002eac93ad33897b59807", func := "alum/alumlaw17.EpochFreesAllInTheEnd", spec := "epochFreesAllInTheEnd", unfollowed := true, recurses := true, apart := false, narrowed := true }
def EpochFreesAllInTheEndUptoSaid : Prop := epochFreesAllInTheEndUptoRow.holds Try.pinned (OpenSpec.upto epochFreesAllInTheEndSpec)

/-- 'alumlaw17.EpochWaitsForReaders', WHERE WHAT IT READS IS OF BULK AT MOST 1048576: true; the input reads as it did. -/
def epochWaitsForReadersUptoRow : OpenClaim := { program := "ytphmfmfbneoljaa", sum := "351d44195d703b9f1b6913eedcb58c4c9da0c703ade002eac93ad33897b59807", func := "alum/alumlaw17.EpochWaitsForReaders", spec := "epochWaitsForReaders", unfollowed := true, recurses := true, apart := false, narrowed := true }
def EpochWaitsForReadersUptoSaid : Prop := epochWaitsForReadersUptoRow.holds Try.pinned (OpenSpec.upto epochWaitsForReadersSpec)

end Rows
end Go.Proofs.Ytphmfmfbneoljaa
