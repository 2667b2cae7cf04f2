/-
  No cell of these rows narrows 'for every input' (looked for: loops, veiled, ifaces, maps, wideKeys, modest, calm, conditions, laid).
  DERIVED. THE GIVEN ROWS OF THIS SEAT. 6 by the template 'for every input the law returns true; each argument reads behind the call as it read before'; 0 by the template 'total and deterministic' (their statements: YtfolabkgeeeobaaTotals.lean).
  GIVEN WITH THE SEED: the statements are not yours to turn. If you find one false, say at which input.
  Laid BY PROGRAM, IN A SANDBOX (cutbox-rows.mjs): the forced cells as the released guide's own fill.sh prints them over the translation cb33109d5352572e… (all of the seat's roots in one cut). By AI agents, Wed Nov 11 2026. No macro, syntax, notation, axiom, sorry.
-/
import Derived.Test.YtfolabkgeeeobaaChecked
import GoSem.Claim
import GoSem.ClaimJoined
import GoSem.ClaimMapViews
import Derived.JoinedTies
import Derived.KernelRfl
namespace Go.Proofs.Ytfolabkgeeeobaa
/- THE CELL 'sum', in the pinned program and in every row, IS THE sha256 OF THE DUMP (.gsa) THAT YtfolabkgeeeobaaProg.lean LOADS. Nothing in Lean hashes anything: it is a label: what it is worth is what the hold of that sum in a sandbox is worth. -/
noncomputable def Try.pinned : Pinned := { name := "ytfolabkgeeeobaa", sum := "cb33109d5352572e507a19819f372f4999085d8bf7f564df3cc330bfabb3ef79", checked := Try.checked }
namespace Rows
def none {H : Type} : Left H := { results := [], args := [] }

/-- 'cardnetlaw05.BitmapOf': WHATEVER THE INPUT: true; the input reads as it did. -/
def bitmapOfSpec : ChangeSpec := { name := "bitmapOf", fn := fun _ => fun
  | [d] => { results := [.lit (.bool true)], args := [d] }
  | _ => none }
def bitmapOfRow : OpenClaim := { program := "ytfolabkgeeeobaa", sum := "cb33109d5352572e507a19819f372f4999085d8bf7f564df3cc330bfabb3ef79", func := "cardnet/cardnetlaw05.BitmapOf", spec := "bitmapOf", apart := false }
def BitmapOfSaid : Prop := bitmapOfRow.holds Try.pinned (OpenSpec.ofChange bitmapOfSpec)

/-- ITS FALSE NEIGHBOUR: 'it returns false'. Refute it at one input. -/
def bitmapOfWrong : ChangeSpec := { name := "bitmapOf", fn := fun _ => fun
  | [d] => { results := [.lit (.bool false)], args := [d] }
  | _ => none }
def BitmapOfWrongFalsely : Prop := bitmapOfRow.holds Try.pinned (OpenSpec.ofChange bitmapOfWrong)

/-- 'cardnetlaw05.BitmapJoins': WHATEVER THE INPUT: true; the input reads as it did. -/
def bitmapJoinsSpec : ChangeSpec := { name := "bitmapJoins", fn := fun _ => fun
  | [d1, d2] => { results := [.lit (.bool true)], args := [d1, d2] }
  | _ => none }
def bitmapJoinsRow : OpenClaim := { program := "ytfolabkgeeeobaa", sum := "cb33109d5352572e507a19819f372f4999085d8bf7f564df3cc330bfabb3ef79", func := "cardnet/cardnetlaw05.BitmapJoins", spec := "bitmapJoins", apart := false }
def BitmapJoinsSaid : Prop := bitmapJoinsRow.holds Try.pinned (OpenSpec.ofChange bitmapJoinsSpec)

/-- ITS FALSE NEIGHBOUR: 'it returns false'. Refute it at one input. -/
def bitmapJoinsWrong : ChangeSpec := { name := "bitmapJoins", fn := fun _ => fun
  | [d1, d2] => { results := [.lit (.bool false)], args := [d1, d2] }
  | _ => none }
def BitmapJoinsWrongFalsely : Prop := bitmapJoinsRow.holds Try.pinned (OpenSpec.ofChange bitmapJoinsWrong)

/-- 'cardnetlaw05.BitmapCodes': WHATEVER THE INPUT: true; the input reads as it did. -/
def bitmapCodesSpec : ChangeSpec := { name := "bitmapCodes", fn := fun _ => fun
  | [d1, d2] => { results := [.lit (.bool true)], args := [d1, d2] }
  | _ => none }
def bitmapCodesRow : OpenClaim := { program := "ytfolabkgeeeobaa", sum := "cb33109d5352572e507a19819f372f4999085d8bf7f564df3cc330bfabb3ef79", func := "cardnet/cardnetlaw05.BitmapCodes", spec := "bitmapCodes", apart := false }
def BitmapCodesSaid : Prop := bitmapCodesRow.holds Try.pinned (OpenSpec.ofChange bitmapCodesSpec)

/-- ITS FALSE NEIGHBOUR: 'it returns false'. Refute it at one input. -/
def bitmapCodesWrong : ChangeSpec := { name := "bitmapCodes", fn := fun _ => fun
  | [d1, d2] => { results := [.lit (.bool false)], args := [d1, d2] }
  | _ => none }
def BitmapCodesWrongFalsely : Prop := bitmapCodesRow.holds Try.pinned (OpenSpec.ofChange bitmapCodesWrong)

/-- 'cardnetlaw05.BitmapCounts': WHATEVER THE INPUT: true; the input reads as it did. -/
def bitmapCountsSpec : ChangeSpec := { name := "bitmapCounts", fn := fun _ => fun
  | [d1, d2] => { results := [.lit (.bool true)], args := [d1, d2] }
  | _ => none }
def bitmapCountsRow : OpenClaim := { program := "ytfolabkgeeeobaa", sum := "cb33109d5352572e507a19819f372f4999085d8bf7f564df3cc330bfabb3ef79", func := "cardnet/cardnetlaw05.BitmapCounts", spec := "bitmapCounts", apart := false }
def BitmapCountsSaid : Prop := bitmapCountsRow.holds Try.pinned (OpenSpec.ofChange bitmapCountsSpec)

/-- ITS FALSE NEIGHBOUR: 'it returns false'. Refute it at one input. -/
def bitmapCountsWrong : ChangeSpec := { name := "bitmapCounts", fn := fun _ => fun
  | [d1, d2] => { results := [.lit (.bool false)], args := [d1, d2] }
  | _ => none }
def BitmapCountsWrongFalsely : Prop := bitmapCountsRow.holds Try.pinned (OpenSpec.ofChange bitmapCountsWrong)

/-- 'cardnetlaw05.BitmapSets': WHATEVER THE INPUT: true; the input reads as it did. -/
def bitmapSetsSpec : ChangeSpec := { name := "bitmapSets", fn := fun _ => fun
  | [d1, d2] => { results := [.lit (.bool true)], args := [d1, d2] }
  | _ => none }
def bitmapSetsRow : OpenClaim := { program := "ytfolabkgeeeobaa", sum := "cb33109d5352572e507a19819f372f4999085d8bf7f564df3cc330bfabb3ef79", func := "cardnet/cardnetlaw05.BitmapSets", spec := "bitmapSets", apart := false }
def BitmapSetsSaid : Prop := bitmapSetsRow.holds Try.pinned (OpenSpec.ofChange bitmapSetsSpec)

/-- ITS FALSE NEIGHBOUR: 'it returns false'. Refute it at one input. -/
def bitmapSetsWrong : ChangeSpec := { name := "bitmapSets", fn := fun _ => fun
  | [d1, d2] => { results := [.lit (.bool false)], args := [d1, d2] }
  | _ => none }
def BitmapSetsWrongFalsely : Prop := bitmapSetsRow.holds Try.pinned (OpenSpec.ofChange bitmapSetsWrong)

/-- 'cardnetlaw05.BitmapRoundTrip': WHATEVER THE INPUT: true; the input reads as it did. -/
def bitmapRoundTripSpec : ChangeSpec := { name := "bitmapRoundTrip", fn := fun _ => fun
  | [d1, d2] => { results := [.lit (.bool true)], args := [d1, d2] }
  | _ => none }
def bitmapRoundTripRow : OpenClaim := { program := "ytfolabkgeeeobaa", sum := "cb33109d5352572e507a19819f372f4999085d8bf7f564df3cc330bfabb3ef79", func := "cardnet/cardnetlaw05.BitmapRoundTrip", spec := "bitmapRoundTrip", apart := false }
def BitmapRoundTripSaid : Prop := bitmapRoundTripRow.holds Try.pinned (OpenSpec.ofChange bitmapRoundTripSpec)

/-- ITS FALSE NEIGHBOUR: 'it returns false'. Refute it at one input. -/
def bitmapRoundTripWrong : ChangeSpec := { name := "bitmapRoundTrip", fn := fun _ => fun
  | [d1, d2] => { results := [.lit (.bool false)], args := [d1, d2] }
  | _ => none }
def BitmapRoundTripWrongFalsely : Prop := bitmapRoundTripRow.holds Try.pinned (OpenSpec.ofChange bitmapRoundTripWrong)

/- THE SECOND FORM. 'bulk': how many values and letters a reading holds, each counted each time it is reached (what is shared counts as often as it is met; a slice's spare places count too). A statement '..UptoSaid' is the law's where the arguments, and the package variables that the reading takes, are together of bulk at most 1048576: NARROWER than '..Said'. Prove '..Said' where nothing that the law and all that it calls make is longer than what came in: it says more and counts as full. Else prove '..UptoSaid'. A law counts once. -/
mutual
def uptoBulk {H : Type} : DataW H → Nat
  | .lit (.string bytes) => bytes.length + 1
  | .lit _ => 1
  | .nil => 1
  | .ptr d => uptoBulk d + 1
  | .slice elems spare => uptoBulkAll elems + uptoBulkAll spare + 1
  | .agg parts => uptoBulkAll parts + 1
  | .iface _ d => uptoBulk d + 1
  | .map entries => uptoBulkEntries entries + 1
  | .held _ => 1
def uptoBulkAll {H : Type} : List (DataW H) → Nat
  | [] => 0
  | d :: r => uptoBulk d + uptoBulkAll r
def uptoBulkEntries {H : Type} : List (Lit × DataW H) → Nat
  | [] => 0
  | x :: r => uptoBulkEntry x + uptoBulkEntries r
def uptoBulkEntry {H : Type} : Lit × DataW H → Nat
  | (.string bytes, d) => bytes.length + uptoBulk d + 1
  | (_, d) => uptoBulk d + 1
 end
def uptoSmall : (H : Type) → List (DataW H) → Bool := fun _ ds => decide (uptoBulkAll ds ≤ 1048576)
def OpenSpec.upto (s : _root_.Go.ChangeSpec) : _root_.Go.OpenSpec := { _root_.Go.OpenSpec.ofChange s with cond := some uptoSmall }

/-- 'cardnetlaw05.BitmapOf', WHERE WHAT IT READS IS OF BULK AT MOST 1048576: true; the input reads as it did. -/
def bitmapOfUptoRow : OpenClaim := { program := "ytfolabkgeeeobaa", sum := "cb33109d5352572e507a19819f372f4999085d8bf7f564df3cc330bfabb3ef79", func := "cardnet/cardnetlaw05.BitmapOf", spec := "bitmapOf", apart := false, narrowed := true }
def BitmapOfUptoSaid : Prop := bitmapOfUptoRow.holds Try.pinned (OpenSpec.upto bitmapOfSpec)

/-- 'cardnetlaw05.BitmapJoins', WHERE WHAT IT READS IS OF BULK AT MOST 1048576: true; the input reads as it did. -/
def bitmapJoinsUptoRow : OpenClaim := { program := "ytfolabkgeeeobaa", sum := "cb33109d5352572e507a19819f372f4999085d8bf7f564df3cc330bfabb3ef79", func := "cardnet/cardnetlaw05.BitmapJoins", spec := "bitmapJoins", apart := false, narrowed := true }
def BitmapJoinsUptoSaid : Prop := bitmapJoinsUptoRow.holds Try.pinned (OpenSpec.upto bitmapJoinsSpec)

/-- 'cardnetlaw05.BitmapCodes', WHERE WHAT IT READS IS OF BULK AT MOST 1048576: true; the input reads as it did. -/
def bitmapCodesUptoRow : OpenClaim := { program := "ytfolabkgeeeobaa", sum := "cb33109d5352572e507a19819f372f4999085d8bf7f564df3cc330bfabb3ef79", func := "cardnet/cardnetlaw05.BitmapCodes", spec := "bitmapCodes", apart := false, narrowed := true }
def BitmapCodesUptoSaid : Prop := bitmapCodesUptoRow.holds Try.pinned (OpenSpec.upto bitmapCodesSpec)

/-- 'cardnetlaw05.BitmapCounts', WHERE WHAT IT READS IS OF BULK AT MOST 1048576: true; the input reads as it did. -/
def bitmapCountsUptoRow : OpenClaim := { program := "ytfolabkgeeeobaa", sum := "cb33109d5352572e507a19819f372f4999085d8bf7f564df3cc330bfabb3ef79", func := "cardnet/cardnetlaw05.BitmapCounts", spec := "bitmapCounts", apart := false, narrowed := true }
def BitmapCountsUptoSaid : Prop := bitmapCountsUptoRow.holds Try.pinned (OpenSpec.upto bitmapCountsSpec)

/-- 'cardnetlaw05.BitmapSets', WHERE WHAT IT READS IS OF BULK AT MOST 1048576: true; the input reads as it did. -/
def bitmapSetsUptoRow : OpenClaim := { program := "ytfolabkgeeeobaa", sum := "cb33109d5352572e507a19819f372f4999085d8bf7f564df3cc330bfabb3ef79", func := "cardnet/cardnetlaw05.BitmapSets", spec := "bitmapSets", apart := false, narrowed := true }
def BitmapSetsUptoSaid : Prop := bitmapSetsUptoRow.holds Try.pinned (OpenSpec.upto bitmapSetsSpec)

/-- 'cardnetlaw05.BitmapRoundTrip', WHERE WHAT IT READS IS OF BULK AT MOST 1048576: true; the input reads as it did. -/
def bitmapRoundTripUptoRow : OpenClaim := { program := "ytfolabkgeeeobaa", sum := "cb33109d5352572e507a19819f372f4999085d8bf7f564df3cc330bfabb3ef79", func := "cardnet/cardnetlaw05.BitmapRoundTrip", spec := "bitmapRoundTrip", apart := false, narrowed := true }
def BitmapRoundTripUptoSaid : Prop := bitmapRoundTripUptoRow.holds Try.pinned (OpenSpec.upto bitmapRoundTripSpec)

end Rows
end Go.Proofs.Ytfolabkgeeeobaa
