/-
  No cell of these rows narrows 'for every input' (looked for: loops, veiled, ifaces, maps, wideKeys, modest, calm, conditions, laid).
  DERIVED. THE GIVEN ROWS OF THIS SEAT. 3 by the template 'for every input the law returns true; each argument reads behind the call as it read before'; 0 by the template 'total and deterministic' (their statements: YthjgfheogbchkaaTotals.lean).
  GIVEN WITH THE SEED: the statements are not yours to turn. If you find one false, say at which input.
  Laid BY PROGRAM, IN A SANDBOX (cutbox-rows.mjs): the forced cells as the released guide's own fill.sh prints them over the translation 351fa4d07c146677… (all of the seat's roots in one cut). By AI agents, Wed Nov 11 2026. No macro, syntax, notation, axiom, sorry.
-/
import Derived.Test.YthjgfheogbchkaaChecked
import GoSem.Claim
import GoSem.ClaimJoined
import GoSem.ClaimMapViews
import Derived.JoinedTies
import Derived.KernelRfl
namespace Go.Proofs.Ythjgfheogbchkaa
/- THE CELL 'sum', in the pinned program and in every row, IS THE sha256 OF THE DUMP (.gsa) THAT YthjgfheogbchkaaProg.lean LOADS. Nothing in Lean hashes anything: it is a label: what it is worth is what the hold of that sum in a sandbox is worth. -/
noncomputable def Try.pinned : Pinned := { name := "ythjgfheogbchkaa", sum := "351fa4d07c146677b16a980b59906a23002f3a41aa14850b625bf9f31dc3d2b9", checked := Try.checked }
namespace Rows
def none {H : Type} : Left H := { results := [], args := [] }

/-- 'cardnetlaw20.ForwardFull': WHATEVER THE INPUT: true; the input reads as it did. -/
def forwardFullSpec : ChangeSpec := { name := "forwardFull", fn := fun _ => fun
  | [d] => { results := [.lit (.bool true)], args := [d] }
  | _ => none }
def forwardFullRow : OpenClaim := { program := "ythjgfheogbchkaa", sum := "351fa4d07c146677b16a980b59906a23002f3a41aa14850b625bf9f31dc3d2b9", func := "cardnet/cardnetlaw20.ForwardFull", spec := "forwardFull", unfollowed := true, recurses := true, apart := false }
def ForwardFullSaid : Prop := forwardFullRow.holds Try.pinned (OpenSpec.ofChange forwardFullSpec)

/-- ITS FALSE NEIGHBOUR: 'it returns false'. Refute it at one input. -/
def forwardFullWrong : ChangeSpec := { name := "forwardFull", fn := fun _ => fun
  | [d] => { results := [.lit (.bool false)], args := [d] }
  | _ => none }
def ForwardFullWrongFalsely : Prop := forwardFullRow.holds Try.pinned (OpenSpec.ofChange forwardFullWrong)

/-- 'cardnetlaw20.ForwardRepeats': WHATEVER THE INPUT: true; the input reads as it did. -/
def forwardRepeatsSpec : ChangeSpec := { name := "forwardRepeats", fn := fun _ => fun
  | [d1, d2, d3] => { results := [.lit (.bool true)], args := [d1, d2, d3] }
  | _ => none }
def forwardRepeatsRow : OpenClaim := { program := "ythjgfheogbchkaa", sum := "351fa4d07c146677b16a980b59906a23002f3a41aa14850b625bf9f31dc3d2b9", func := "cardnet/cardnetlaw20.ForwardRepeats", spec := "forwardRepeats", unfollowed := true, recurses := true, apart := false }
def ForwardRepeatsSaid : Prop := forwardRepeatsRow.holds Try.pinned (OpenSpec.ofChange forwardRepeatsSpec)

/-- ITS FALSE NEIGHBOUR: 'it returns false'. Refute it at one input. -/
def forwardRepeatsWrong : ChangeSpec := { name := "forwardRepeats", fn := fun _ => fun
  | [d1, d2, d3] => { results := [.lit (.bool false)], args := [d1, d2, d3] }
  | _ => none }
def ForwardRepeatsWrongFalsely : Prop := forwardRepeatsRow.holds Try.pinned (OpenSpec.ofChange forwardRepeatsWrong)

/-- 'cardnetlaw20.ForwardHolds': WHATEVER THE INPUT: true; the input reads as it did. -/
def forwardHoldsSpec : ChangeSpec := { name := "forwardHolds", fn := fun _ => fun
  | [d1, d2] => { results := [.lit (.bool true)], args := [d1, d2] }
  | _ => none }
def forwardHoldsRow : OpenClaim := { program := "ythjgfheogbchkaa", sum := "351fa4d07c146677b16a980b59906a23002f3a41aa14850b625bf9f31dc3d2b9", func := "cardnet/cardnetlaw20.ForwardHolds", spec := "forwardHolds", unfollowed := true, recurses := true, apart := false }
def ForwardHoldsSaid : Prop := forwardHoldsRow.holds Try.pinned (OpenSpec.ofChange forwardHoldsSpec)

/-- ITS FALSE NEIGHBOUR: 'it returns false'. Refute it at one input. -/
def forwardHoldsWrong : ChangeSpec := { name := "forwardHolds", fn := fun _ => fun
  | [d1, d2] => { results := [.lit (.bool false)], args := [d1, d2] }
  | _ => none }
def ForwardHoldsWrongFalsely : Prop := forwardHoldsRow.holds Try.pinned (OpenSpec.ofChange forwardHoldsWrong)

/- THE SECOND FORM. 'bulk': how many values and letters a reading holds, each counted each time it is reached (what is shared counts as often as it is met; a slice's spare places count too). A statement '..UptoSaid' is the law's where the arguments, and the package variables that the reading takes, are together of bulk at most 1048576: NARROWER than '..Said'. Prove '..Said' where nothing that the law and all that it calls make is longer than what came in: it says more and counts as full. Else prove '..UptoSaid'. A law counts once. -/
mutual
def uptoBulk {H : Type} : DataW H → Nat
  | .lit (.string bytes) => bytes.length + 1
  | .lit _ => 1
  | .nil => 1
  | .ptr d => uptoBulk d + 1
  | .slice elems spare => uptoBulkAll elems + uptoBulkAll spare + 1
  | .agg parts => uptoBulkAll parts + 1
  | .iface _ d => uptoBulk d + 1
  | .map entries => uptoBulkEntries entries + 1
  | .held _ => 1
def uptoBulkAll {H : Type} : List (DataW H) → Nat
  | [] => 0
  | d :: r => uptoBulk d + uptoBulkAll r
def uptoBulkEntries {H : Type} : List (Lit × DataW H) → Nat
  | [] => 0
  | x :: r => uptoBulkEntry x + uptoBulkEntries r
def uptoBulkEntry {H : Type} : Lit × DataW H → Nat
  | (.string bytes, d) => bytes.length + uptoBulk d + 1
  | (_, d) => uptoBulk d + 1
 end
def uptoSmall : (H : Type) → List (DataW H) → Bool := fun _ ds => decide (uptoBulkAll ds ≤ 1048576)
def OpenSpec.upto (s : _root_.Go.ChangeSpec) : _root_.Go.OpenSpec := { _root_.Go.OpenSpec.ofChange s with cond := some uptoSmall }

/-- 'cardnetlaw20.ForwardFull', WHERE WHAT IT READS IS OF BULK AT MOST 1048576: true; the input reads as it did. -/
def forwardFullUptoRow : OpenClaim := { program := "ythjgfheogbchkaa", sum := "351fa4d07c146677b16a980b59906a23002f3a41aa14850b625bf9f31dc3d2b9", func := "cardnet/cardnetlaw20.ForwardFull", spec := "forwardFull", unfollowed := true, recurses := true, apart := false, narrowed := true }
def ForwardFullUptoSaid : Prop := forwardFullUptoRow.holds Try.pinned (OpenSpec.upto forwardFullSpec)

/-- 'cardnetlaw20.ForwardRepeats', WHERE WHAT IT READS IS OF BULK AT MOST 1048576: true; the input reads as it did. -/
def forwardRepeatsUptoRow : OpenClaim := { program := "ythjgfheogbchkaa", sum := "351fa4d07c146677b16a980b59906a23002f3a41aa14850b625bf9f31dc3d2b9", func := "cardnet/cardnetlaw20.ForwardRepeats", spec := "forwardRepeats", unfollowed := true, recurses := true, apart := false, narrowed := true }
def ForwardRepeatsUptoSaid : Prop := forwardRepeatsUptoRow.holds Try.pinned (OpenSpec.upto forwardRepeatsSpec)

/-- 'cardnetlaw20.ForwardHolds', WHERE WHAT IT READS IS OF BULK AT MOST 1048576: true; the input reads as it did. -/
def forwardHoldsUptoRow : OpenClaim := { program := "ythjgfheogbchkaa", sum := "351fa4d07c146677b16a980b59906a23002f3a41aa14850b625bf9f31dc3d2b9", func := "cardnet/cardnetlaw20.ForwardHolds", spec := "forwardHolds", unfollowed := true, recurses := true, apart := false, narrowed := true }
def ForwardHoldsUptoSaid : Prop := forwardHoldsUptoRow.holds Try.pinned (OpenSpec.upto forwardHoldsSpec)

end Rows
end Go.Proofs.Ythjgfheogbchkaa
