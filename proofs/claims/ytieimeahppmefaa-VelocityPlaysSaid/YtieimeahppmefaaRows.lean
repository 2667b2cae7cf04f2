/-
  No cell of these rows narrows 'for every input' (looked for: loops, veiled, ifaces, maps, wideKeys, modest, calm, conditions, laid).
  DERIVED. THE GIVEN ROWS OF THIS SEAT. 4 by the template 'for every input the law returns true; each argument reads behind the call as it read before'; 0 by the template 'total and deterministic' (their statements: YtieimeahppmefaaTotals.lean).
  GIVEN WITH THE SEED: the statements are not yours to turn. If you find one false, say at which input.
  Laid BY PROGRAM, IN A SANDBOX (cutbox-rows.mjs): the forced cells as the released guide's own fill.sh prints them over the translation f0ad780940b09bdc… (all of the seat's roots in one cut). By AI agents, Wed Nov 11 2026. No macro, syntax, notation, axiom, sorry.
-/
import Derived.Test.YtieimeahppmefaaChecked
import GoSem.Claim
import GoSem.ClaimJoined
import GoSem.ClaimMapViews
import Derived.JoinedTies
import Derived.KernelRfl
namespace Go.Proofs.Ytieimeahppmefaa
/- THE CELL 'sum', in the pinned program and in every row, IS THE sha256 OF THE DUMP (.gsa) THAT YtieimeahppmefaaProg.lean LOADS. Nothing in Lean hashes anything: it is a label: what it is worth is what the hold of that sum in a sandbox is worth. -/
noncomputable def Try.pinned : Pinned := { name := "ytieimeahppmefaa", sum := "f0ad780940b09bdc88f670ed97c1d60971fdff98cebda0d8570579185c0ee010", checked := Try.checked }
namespace Rows
def none {H : Type} : Left H := { results := [], args := [] }

/-- 'cardnetlaw23.VelocityExact': WHATEVER THE INPUT: true; the input reads as it did. -/
def velocityExactSpec : ChangeSpec := { name := "velocityExact", fn := fun _ => fun
  | [d] => { results := [.lit (.bool true)], args := [d] }
  | _ => none }
def velocityExactRow : OpenClaim := { program := "ytieimeahppmefaa", sum := "f0ad780940b09bdc88f670ed97c1d60971fdff98cebda0d8570579185c0ee010", func := "cardnet/cardnetlaw23.VelocityExact", spec := "velocityExact", apart := false }
def VelocityExactSaid : Prop := velocityExactRow.holds Try.pinned (OpenSpec.ofChange velocityExactSpec)

/-- ITS FALSE NEIGHBOUR: 'it returns false'. Refute it at one input. -/
def velocityExactWrong : ChangeSpec := { name := "velocityExact", fn := fun _ => fun
  | [d] => { results := [.lit (.bool false)], args := [d] }
  | _ => none }
def VelocityExactWrongFalsely : Prop := velocityExactRow.holds Try.pinned (OpenSpec.ofChange velocityExactWrong)

/-- 'cardnetlaw23.VelocityFull': WHATEVER THE INPUT: true; the input reads as it did. -/
def velocityFullSpec : ChangeSpec := { name := "velocityFull", fn := fun _ => fun
  | [d] => { results := [.lit (.bool true)], args := [d] }
  | _ => none }
def velocityFullRow : OpenClaim := { program := "ytieimeahppmefaa", sum := "f0ad780940b09bdc88f670ed97c1d60971fdff98cebda0d8570579185c0ee010", func := "cardnet/cardnetlaw23.VelocityFull", spec := "velocityFull", apart := false }
def VelocityFullSaid : Prop := velocityFullRow.holds Try.pinned (OpenSpec.ofChange velocityFullSpec)

/-- ITS FALSE NEIGHBOUR: 'it returns false'. Refute it at one input. -/
def velocityFullWrong : ChangeSpec := { name := "velocityFull", fn := fun _ => fun
  | [d] => { results := [.lit (.bool false)], args := [d] }
  | _ => none }
def VelocityFullWrongFalsely : Prop := velocityFullRow.holds Try.pinned (OpenSpec.ofChange velocityFullWrong)

/-- 'cardnetlaw23.VelocityWindows': WHATEVER THE INPUT: true; the input reads as it did. -/
def velocityWindowsSpec : ChangeSpec := { name := "velocityWindows", fn := fun _ => fun
  | [d1, d2, d3] => { results := [.lit (.bool true)], args := [d1, d2, d3] }
  | _ => none }
def velocityWindowsRow : OpenClaim := { program := "ytieimeahppmefaa", sum := "f0ad780940b09bdc88f670ed97c1d60971fdff98cebda0d8570579185c0ee010", func := "cardnet/cardnetlaw23.VelocityWindows", spec := "velocityWindows", apart := false }
def VelocityWindowsSaid : Prop := velocityWindowsRow.holds Try.pinned (OpenSpec.ofChange velocityWindowsSpec)

/-- ITS FALSE NEIGHBOUR: 'it returns false'. Refute it at one input. -/
def velocityWindowsWrong : ChangeSpec := { name := "velocityWindows", fn := fun _ => fun
  | [d1, d2, d3] => { results := [.lit (.bool false)], args := [d1, d2, d3] }
  | _ => none }
def VelocityWindowsWrongFalsely : Prop := velocityWindowsRow.holds Try.pinned (OpenSpec.ofChange velocityWindowsWrong)

/-- 'cardnetlaw23.VelocityPlays': WHATEVER THE INPUT: true; the input reads as it did. -/
def velocityPlaysSpec : ChangeSpec := { name := "velocityPlays", fn := fun _ => fun
  | [d1, d2] => { results := [.lit (.bool true)], args := [d1, d2] }
  | _ => none }
def velocityPlaysRow : OpenClaim := { program := "ytieimeahppmefaa", sum := "f0ad780940b09bdc88f670ed97c1d60971fdff98cebda0d8570579185c0ee010", func := "cardnet/cardnetlaw23.VelocityPlays", spec := "velocityPlays", apart := false }
def VelocityPlaysSaid : Prop := velocityPlaysRow.holds Try.pinned (OpenSpec.ofChange velocityPlaysSpec)

/-- ITS FALSE NEIGHBOUR: 'it returns false'. Refute it at one input. -/
def velocityPlaysWrong : ChangeSpec := { name := "velocityPlays", fn := fun _ => fun
  | [d1, d2] => { results := [.lit (.bool false)], args := [d1, d2] }
  | _ => none }
def VelocityPlaysWrongFalsely : Prop := velocityPlaysRow.holds Try.pinned (OpenSpec.ofChange velocityPlaysWrong)

/- THE SECOND FORM. 'bulk': how many values and letters a reading holds, each counted each time it is reached (what is shared counts as often as it is met; a slice's spare places count too). A statement '..UptoSaid' is the law's where the arguments, and the package variables that the reading takes, are together of bulk at most 1048576: NARROWER than '..Said'. Prove '..Said' where nothing that the law and all that it calls make is longer than what came in: it says more and counts as full. Else prove '..UptoSaid'. A law counts once. -/
mutual
def uptoBulk {H : Type} : DataW H → Nat
  | .lit (.string bytes) => bytes.length + 1
  | .lit _ => 1
  | .nil => 1
  | .ptr d => uptoBulk d + 1
  | .slice elems spare => uptoBulkAll elems + uptoBulkAll spare + 1
  | .agg parts => uptoBulkAll parts + 1
  | .iface _ d => uptoBulk d + 1
  | .map entries => uptoBulkEntries entries + 1
  | .held _ => 1
def uptoBulkAll {H : Type} : List (DataW H) → Nat
  | [] => 0
  | d :: r => uptoBulk d + uptoBulkAll r
def uptoBulkEntries {H : Type} : List (Lit × DataW H) → Nat
  | [] => 0
  | x :: r => uptoBulkEntry x + uptoBulkEntries r
def uptoBulkEntry {H : Type} : Lit × DataW H → Nat
  | (.string bytes, d) => bytes.length + uptoBulk d + 1
  | (_, d) => uptoBulk d + 1
 end
def uptoSmall : (H : Type) → List (DataW H) → Bool := fun _ ds => decide (uptoBulkAll ds ≤ 1048576)
def OpenSpec.upto (s : _root_.Go.ChangeSpec) : _root_.Go.OpenSpec := { _root_.Go.OpenSpec.ofChange s with cond := some uptoSmall }

/-- 'cardnetlaw23.VelocityExact', WHERE WHAT IT READS IS OF BULK AT MOST 1048576: true; the input reads as it did. -/
def velocityExactUptoRow : OpenClaim := { program := "ytieimeahppmefaa", sum := "f0ad780940b09bdc88f670ed97c1d60971fdff98cebda0d8570579185c0ee010", func := "cardnet/cardnetlaw23.VelocityExact", spec := "velocityExact", apart := false, narrowed := true }
def VelocityExactUptoSaid : Prop := velocityExactUptoRow.holds Try.pinned (OpenSpec.upto velocityExactSpec)

/-- 'cardnetlaw23.VelocityFull', WHERE WHAT IT READS IS OF BULK AT MOST 1048576: true; the input reads as it did. -/
def velocityFullUptoRow : OpenClaim := { program := "ytieimeahppmefaa", sum := "f0ad780940b09bdc88f670ed97c1d60971fdff98cebda0d8570579185c0ee010", func := "cardnet/cardnetlaw23.VelocityFull", spec := "velocityFull", apart := false, narrowed := true }
def VelocityFullUptoSaid : Prop := velocityFullUptoRow.holds Try.pinned (OpenSpec.upto velocityFullSpec)

/-- 'cardnetlaw23.VelocityWindows', WHERE WHAT IT READS IS OF BULK AT MOST 1048576: true; the input reads as it did. -/
def velocityWindowsUptoRow : OpenClaim := { program := "ytieimeahppmefaa", sum := "f0ad780940b09bdc88f670ed97c1d60971fdff98cebda0d8570579185c0ee010", func := "cardnet/cardnetlaw23.VelocityWindows", spec := "velocityWindows", apart := false, narrowed := true }
def VelocityWindowsUptoSaid : Prop := velocityWindowsUptoRow.holds Try.pinned (OpenSpec.upto velocityWindowsSpec)

/-- 'cardnetlaw23.VelocityPlays', WHERE WHAT IT READS IS OF BULK AT MOST 1048576: true; the input reads as it did. -/
def velocityPlaysUptoRow : OpenClaim := { program := "ytieimeahppmefaa", sum := "f0ad780940b09bdc88f670ed97c1d60971fdff98cebda0d8570579185c0ee010", func := "cardnet/cardnetlaw23.VelocityPlays", spec := "velocityPlays", apart := false, narrowed := true }
def VelocityPlaysUptoSaid : Prop := velocityPlaysUptoRow.holds Try.pinned (OpenSpec.upto velocityPlaysSpec)

end Rows
end Go.Proofs.Ytieimeahppmefaa
