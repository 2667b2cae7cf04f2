/-
  No cell of these rows narrows 'for every input' (looked for: loops, veiled, ifaces, maps, wideKeys, modest, calm, conditions, laid).
  DERIVED. THE GIVEN ROWS OF THIS SEAT. 5 by the template 'for every input the law returns true; each argument reads behind the call as it read before'; 0 by the template 'total and deterministic' (their statements: YtgacpkbpbckgiaaTotals.lean).
  GIVEN WITH THE SEED: the statements are not yours to turn. If you find one false, say at which input.
  Laid BY PROGRAM, IN A SANDBOX (cutbox-rows.mjs): the forced cells as the released guide's own fill.sh prints them over the translation 6473d7521af34ad3… (all of the seat's roots in one cut). By AI agents, Wed Nov 11 2026. No macro, syntax, notation, axiom, sorry.
-/
import Derived.Test.YtgacpkbpbckgiaaChecked
import GoSem.Claim
import GoSem.ClaimJoined
import GoSem.ClaimMapViews
import Derived.JoinedTies
import Derived.KernelRfl
namespace Go.Proofs.Ytgacpkbpbckgiaa
/- THE CELL 'sum', in the pinned program and in every row, IS THE sha256 OF THE DUMP (.gsa) THAT YtgacpkbpbckgiaaProg.lean LOADS. Nothing in Lean hashes anything: it is a label: what it is worth is what the hold of that sum in a sandbox is worth. -/
noncomputable def Try.pinned : Pinned := { name := "ytgacpkbpbckgiaa", sum := "6473d7521af34ad3dc9a8f983bebbb247f0282c70bdb2fdf024493765985b132", checked := Try.checked }
namespace Rows
def none {H : Type} : Left H := { results := [], args := [] }

/-- 'cardnetlaw19.ExchangeCalls': WHATEVER THE INPUT: true; the input reads as it did. -/
def exchangeCallsSpec : ChangeSpec := { name := "exchangeCalls", fn := fun _ => fun
  | [d1, d2] => { results := [.lit (.bool true)], args := [d1, d2] }
  | _ => none }
def exchangeCallsRow : OpenClaim := { program := "ytgacpkbpbckgiaa", sum := "6473d7521af34ad3dc9a8f983bebbb247f0282c70bdb2fdf024493765985b132", func := "cardnet/cardnetlaw19.ExchangeCalls", spec := "exchangeCalls", unfollowed := true, recurses := true, apart := false }
def ExchangeCallsSaid : Prop := exchangeCallsRow.holds Try.pinned (OpenSpec.ofChange exchangeCallsSpec)

/-- ITS FALSE NEIGHBOUR: 'it returns false'. Refute it at one input. -/
def exchangeCallsWrong : ChangeSpec := { name := "exchangeCalls", fn := fun _ => fun
  | [d1, d2] => { results := [.lit (.bool false)], args := [d1, d2] }
  | _ => none }
def ExchangeCallsWrongFalsely : Prop := exchangeCallsRow.holds Try.pinned (OpenSpec.ofChange exchangeCallsWrong)

/-- 'cardnetlaw19.ExchangeOutcome': WHATEVER THE INPUT: true; the input reads as it did. -/
def exchangeOutcomeSpec : ChangeSpec := { name := "exchangeOutcome", fn := fun _ => fun
  | [d1, d2] => { results := [.lit (.bool true)], args := [d1, d2] }
  | _ => none }
def exchangeOutcomeRow : OpenClaim := { program := "ytgacpkbpbckgiaa", sum := "6473d7521af34ad3dc9a8f983bebbb247f0282c70bdb2fdf024493765985b132", func := "cardnet/cardnetlaw19.ExchangeOutcome", spec := "exchangeOutcome", unfollowed := true, recurses := true, apart := false }
def ExchangeOutcomeSaid : Prop := exchangeOutcomeRow.holds Try.pinned (OpenSpec.ofChange exchangeOutcomeSpec)

/-- ITS FALSE NEIGHBOUR: 'it returns false'. Refute it at one input. -/
def exchangeOutcomeWrong : ChangeSpec := { name := "exchangeOutcome", fn := fun _ => fun
  | [d1, d2] => { results := [.lit (.bool false)], args := [d1, d2] }
  | _ => none }
def ExchangeOutcomeWrongFalsely : Prop := exchangeOutcomeRow.holds Try.pinned (OpenSpec.ofChange exchangeOutcomeWrong)

/-- 'cardnetlaw19.ExchangeKeeps': WHATEVER THE INPUT: true; the input reads as it did. -/
def exchangeKeepsSpec : ChangeSpec := { name := "exchangeKeeps", fn := fun _ => fun
  | [d1, d2, d3] => { results := [.lit (.bool true)], args := [d1, d2, d3] }
  | _ => none }
def exchangeKeepsRow : OpenClaim := { program := "ytgacpkbpbckgiaa", sum := "6473d7521af34ad3dc9a8f983bebbb247f0282c70bdb2fdf024493765985b132", func := "cardnet/cardnetlaw19.ExchangeKeeps", spec := "exchangeKeeps", unfollowed := true, recurses := true, apart := false }
def ExchangeKeepsSaid : Prop := exchangeKeepsRow.holds Try.pinned (OpenSpec.ofChange exchangeKeepsSpec)

/-- ITS FALSE NEIGHBOUR: 'it returns false'. Refute it at one input. -/
def exchangeKeepsWrong : ChangeSpec := { name := "exchangeKeeps", fn := fun _ => fun
  | [d1, d2, d3] => { results := [.lit (.bool false)], args := [d1, d2, d3] }
  | _ => none }
def ExchangeKeepsWrongFalsely : Prop := exchangeKeepsRow.holds Try.pinned (OpenSpec.ofChange exchangeKeepsWrong)

/-- 'cardnetlaw19.ExchangeTimes': WHATEVER THE INPUT: true; the input reads as it did. -/
def exchangeTimesSpec : ChangeSpec := { name := "exchangeTimes", fn := fun _ => fun
  | [d1, d2, d3] => { results := [.lit (.bool true)], args := [d1, d2, d3] }
  | _ => none }
def exchangeTimesRow : OpenClaim := { program := "ytgacpkbpbckgiaa", sum := "6473d7521af34ad3dc9a8f983bebbb247f0282c70bdb2fdf024493765985b132", func := "cardnet/cardnetlaw19.ExchangeTimes", spec := "exchangeTimes", unfollowed := true, recurses := true, apart := false }
def ExchangeTimesSaid : Prop := exchangeTimesRow.holds Try.pinned (OpenSpec.ofChange exchangeTimesSpec)

/-- ITS FALSE NEIGHBOUR: 'it returns false'. Refute it at one input. -/
def exchangeTimesWrong : ChangeSpec := { name := "exchangeTimes", fn := fun _ => fun
  | [d1, d2, d3] => { results := [.lit (.bool false)], args := [d1, d2, d3] }
  | _ => none }
def ExchangeTimesWrongFalsely : Prop := exchangeTimesRow.holds Try.pinned (OpenSpec.ofChange exchangeTimesWrong)

/-- 'cardnetlaw19.ExchangeNobody': WHATEVER THE INPUT: true; the input reads as it did. -/
def exchangeNobodySpec : ChangeSpec := { name := "exchangeNobody", fn := fun _ => fun
  | [d1, d2, d3] => { results := [.lit (.bool true)], args := [d1, d2, d3] }
  | _ => none }
def exchangeNobodyRow : OpenClaim := { program := "ytgacpkbpbckgiaa", sum := "6473d7521af34ad3dc9a8f983bebbb247f0282c70bdb2fdf024493765985b132", func := "cardnet/cardnetlaw19.ExchangeNobody", spec := "exchangeNobody", unfollowed := true, recurses := true, apart := false }
def ExchangeNobodySaid : Prop := exchangeNobodyRow.holds Try.pinned (OpenSpec.ofChange exchangeNobodySpec)

/-- ITS FALSE NEIGHBOUR: 'it returns false'. Refute it at one input. -/
def exchangeNobodyWrong : ChangeSpec := { name := "exchangeNobody", fn := fun _ => fun
  | [d1, d2, d3] => { results := [.lit (.bool false)], args := [d1, d2, d3] }
  | _ => none }
def ExchangeNobodyWrongFalsely : Prop := exchangeNobodyRow.holds Try.pinned (OpenSpec.ofChange exchangeNobodyWrong)

/- THE SECOND FORM. 'bulk': how many values and letters a reading holds, each counted each time it is reached (what is shared counts as often as it is met; a slice's spare places count too). A statement '..UptoSaid' is the law's where the arguments, and the package variables that the reading takes, are together of bulk at most 1048576: NARROWER than '..Said'. Prove '..Said' where nothing that the law and all that it calls make is longer than what came in: it says more and counts as full. Else prove '..UptoSaid'. A law counts once. -/
mutual
def uptoBulk {H : Type} : DataW H → Nat
  | .lit (.string bytes) => bytes.length + 1
  | .lit _ => 1
  | .nil => 1
  | .ptr d => uptoBulk d + 1
  | .slice elems spare => uptoBulkAll elems + uptoBulkAll spare + 1
  | .agg parts => uptoBulkAll parts + 1
  | .iface _ d => uptoBulk d + 1
  | .map entries => uptoBulkEntries entries + 1
  | .held _ => 1
def uptoBulkAll {H : Type} : List (DataW H) → Nat
  | [] => 0
  | d :: r => uptoBulk d + uptoBulkAll r
def uptoBulkEntries {H : Type} : List (Lit × DataW H) → Nat
  | [] => 0
  | x :: r => uptoBulkEntry x + uptoBulkEntries r
def uptoBulkEntry {H : Type} : Lit × DataW H → Nat
  | (.string bytes, d) => bytes.length + uptoBulk d + 1
  | (_, d) => uptoBulk d + 1
 end
def uptoSmall : (H : Type) → List (DataW H) → Bool := fun _ ds => decide (uptoBulkAll ds ≤ 1048576)
def OpenSpec.upto (s : _root_.Go.ChangeSpec) : _root_.Go.OpenSpec := { _root_.Go.OpenSpec.ofChange s with cond := some uptoSmall }

/-- 'cardnetlaw19.ExchangeCalls', WHERE WHAT IT READS IS OF BULK AT MOST 1048576: true; the input reads as it did. -/
def exchangeCallsUptoRow : OpenClaim := { program := "ytgacpkbpbckgiaa", sum := "6473d7521af34ad3dc9a8f983bebbb247f0282c70bdb2fdf024493765985b132", func := "cardnet/cardnetlaw19.ExchangeCalls", spec := "exchangeCalls", unfollowed := true, recurses := true, apart := false, narrowed := true }
def ExchangeCallsUptoSaid : Prop := exchangeCallsUptoRow.holds Try.pinned (OpenSpec.upto exchangeCallsSpec)

/-- 'cardnetlaw19.ExchangeOutcome', WHERE WHAT IT READS IS OF BULK AT MOST 1048576: true; the input reads as it did. -/
def exchangeOutcomeUptoRow : OpenClaim := { program := "ytgacpkbpbckgiaa", sum := "6473d7521af34ad3dc9a8f983bebbb247f0282c70bdb2fdf024493765985b132", func := "cardnet/cardnetlaw19.ExchangeOutcome", spec := "exchangeOutcome", unfollowed := true, recurses := true, apart := false, narrowed := true }
def ExchangeOutcomeUptoSaid : Prop := exchangeOutcomeUptoRow.holds Try.pinned (OpenSpec.upto exchangeOutcomeSpec)

/-- 'cardnetlaw19.ExchangeKeeps', WHERE WHAT IT READS IS OF BULK AT MOST 1048576: true; the input reads as it did. -/
def exchangeKeepsUptoRow : OpenClaim := { program := "ytgacpkbpbckgiaa", sum := "6473d7521af34ad3dc9a8f983bebbb247f0282c70bdb2fdf024493765985b132", func := "cardnet/cardnetlaw19.ExchangeKeeps", spec := "exchangeKeeps", unfollowed := true, recurses := true, apart := false, narrowed := true }
def ExchangeKeepsUptoSaid : Prop := exchangeKeepsUptoRow.holds Try.pinned (OpenSpec.upto exchangeKeepsSpec)

/-- 'cardnetlaw19.ExchangeTimes', WHERE WHAT IT READS IS OF BULK AT MOST 1048576: true; the input reads as it did. -/
def exchangeTimesUptoRow : OpenClaim := { program := "ytgacpkbpbckgiaa", sum := "6473d7521af34ad3dc9a8f983bebbb247f0282c70bdb2fdf024493765985b132", func := "cardnet/cardnetlaw19.ExchangeTimes", spec := "exchangeTimes", unfollowed := true, recurses := true, apart := false, narrowed := true }
def ExchangeTimesUptoSaid : Prop := exchangeTimesUptoRow.holds Try.pinned (OpenSpec.upto exchangeTimesSpec)

/-- 'cardnetlaw19.ExchangeNobody', WHERE WHAT IT READS IS OF BULK AT MOST 1048576: true; the input reads as it did. -/
def exchangeNobodyUptoRow : OpenClaim := { program := "ytgacpkbpbckgiaa", sum := "6473d7521af34ad3dc9a8f983bebbb247f0282c70bdb2fdf024493765985b132", func := "cardnet/cardnetlaw19.ExchangeNobody", spec := "exchangeNobody", unfollowed := true, recurses := true, apart := false, narrowed := true }
def ExchangeNobodyUptoSaid : Prop := exchangeNobodyUptoRow.holds Try.pinned (OpenSpec.upto exchangeNobodySpec)

end Rows
end Go.Proofs.Ytgacpkbpbckgiaa
