/-
  No cell of these rows narrows 'for every input' (looked for: loops, veiled, ifaces, maps, wideKeys, modest, calm, conditions, laid).
  DERIVED. THE GIVEN ROWS OF THIS SEAT. 3 by the template 'for every input the law returns true; each argument reads behind the call as it read before'; 0 by the template 'total and deterministic' (their statements: YtcdjglkcblphlaaTotals.lean).
  GIVEN WITH THE SEED: the statements are not yours to turn. If you find one false, say at which input.
  Laid BY PROGRAM, IN A SANDBOX (cutbox-rows.mjs): the forced cells as the released guide's own fill.sh prints them over the translation c85e84a0331a6a5f… (all of the seat's roots in one cut). By AI agents, Wed Nov 11 2026. No macro, syntax, notation, axiom, sorry.
-/
import Derived.Test.YtcdjglkcblphlaaChecked
import GoSem.Claim
import GoSem.ClaimJoined
import GoSem.ClaimMapViews
import Derived.JoinedTies
import Derived.KernelRfl
namespace Go.Proofs.Ytcdjglkcblphlaa
/- THE CELL 'sum', in the pinned program and in every row, IS THE sha256 OF THE DUMP (.gsa) THAT YtcdjglkcblphlaaProg.lean LOADS. Nothing in Lean hashes anything: it is a label: what it is worth is what the hold of that sum in a sandbox is worth. -/
noncomputable def Try.pinned : Pinned := { name := "ytcdjglkcblphlaa", sum := "c85e84a0331a6a5f0d38abad27f4ec342730fd587f94815d3cdbb3570dde49c1", checked := Try.checked }
namespace Rows
def none {H : Type} : Left H := { results := [], args := [] }

/-- 'palfreylaw23.StrikesApart': WHATEVER THE INPUT: true; the input reads as it did. -/
def strikesApartSpec : ChangeSpec := { name := "strikesApart", fn := fun _ => fun
  | [d1, d2] => { results := [.lit (.bool true)], args := [d1, d2] }
  | _ => none }
def strikesApartRow : OpenClaim := { program := "ytcdjglkcblphlaa", sum := "c85e84a0331a6a5f0d38abad27f4ec342730fd587f94815d3cdbb3570dde49c1", func := "palfrey/palfreylaw23.StrikesApart", spec := "strikesApart", unfollowed := true, recurses := true, apart := false }
def StrikesApartSaid : Prop := strikesApartRow.holds Try.pinned (OpenSpec.ofChange strikesApartSpec)

/-- ITS FALSE NEIGHBOUR: 'it returns false'. Refute it at one input. -/
def strikesApartWrong : ChangeSpec := { name := "strikesApart", fn := fun _ => fun
  | [d1, d2] => { results := [.lit (.bool false)], args := [d1, d2] }
  | _ => none }
def StrikesApartWrongFalsely : Prop := strikesApartRow.holds Try.pinned (OpenSpec.ofChange strikesApartWrong)

/-- 'palfreylaw23.StrikesPast': WHATEVER THE INPUT: true; the input reads as it did. -/
def strikesPastSpec : ChangeSpec := { name := "strikesPast", fn := fun _ => fun
  | [d1, d2, d3] => { results := [.lit (.bool true)], args := [d1, d2, d3] }
  | _ => none }
def strikesPastRow : OpenClaim := { program := "ytcdjglkcblphlaa", sum := "c85e84a0331a6a5f0d38abad27f4ec342730fd587f94815d3cdbb3570dde49c1", func := "palfrey/palfreylaw23.StrikesPast", spec := "strikesPast", unfollowed := true, recurses := true, apart := false }
def StrikesPastSaid : Prop := strikesPastRow.holds Try.pinned (OpenSpec.ofChange strikesPastSpec)

/-- ITS FALSE NEIGHBOUR: 'it returns false'. Refute it at one input. -/
def strikesPastWrong : ChangeSpec := { name := "strikesPast", fn := fun _ => fun
  | [d1, d2, d3] => { results := [.lit (.bool false)], args := [d1, d2, d3] }
  | _ => none }
def StrikesPastWrongFalsely : Prop := strikesPastRow.holds Try.pinned (OpenSpec.ofChange strikesPastWrong)

/-- 'palfreylaw23.StrikesThree': WHATEVER THE INPUT: true; the input reads as it did. -/
def strikesThreeSpec : ChangeSpec := { name := "strikesThree", fn := fun _ => fun
  | [d1, d2, d3] => { results := [.lit (.bool true)], args := [d1, d2, d3] }
  | _ => none }
def strikesThreeRow : OpenClaim := { program := "ytcdjglkcblphlaa", sum := "c85e84a0331a6a5f0d38abad27f4ec342730fd587f94815d3cdbb3570dde49c1", func := "palfrey/palfreylaw23.StrikesThree", spec := "strikesThree", unfollowed := true, recurses := true, apart := false }
def StrikesThreeSaid : Prop := strikesThreeRow.holds Try.pinned (OpenSpec.ofChange strikesThreeSpec)

/-- ITS FALSE NEIGHBOUR: 'it returns false'. Refute it at one input. -/
def strikesThreeWrong : ChangeSpec := { name := "strikesThree", fn := fun _ => fun
  | [d1, d2, d3] => { results := [.lit (.bool false)], args := [d1, d2, d3] }
  | _ => none }
def StrikesThreeWrongFalsely : Prop := strikesThreeRow.holds Try.pinned (OpenSpec.ofChange strikesThreeWrong)

/- THE SECOND FORM. 'bulk': how many values and letters a reading holds, each counted each time it is reached (what is shared counts as often as it is met; a slice's spare places count too). A statement '..UptoSaid' is the law's where the arguments, and the package variables that the reading takes, are together of bulk at most 1048576: NARROWER than '..Said'. Prove '..Said' where nothing that the law and all that it calls make is longer than what came in: it says more and counts as full. Else prove '..UptoSaid'. A law counts once. -/
mutual
def uptoBulk {H : Type} : DataW H → Nat
  | .lit (.string bytes) => bytes.length + 1
  | .lit _ => 1
  | .nil => 1
  | .ptr d => uptoBulk d + 1
  | .slice elems spare => uptoBulkAll elems + uptoBulkAll spare + 1
  | .agg parts => uptoBulkAll parts + 1
  | .iface _ d => uptoBulk d + 1
  | .map entries => uptoBulkEntries entries + 1
  | .held _ => 1
def uptoBulkAll {H : Type} : List (DataW H) → Nat
  | [] => 0
  | d :: r => uptoBulk d + uptoBulkAll r
def uptoBulkEntries {H : Type} : List (Lit × DataW H) → Nat
  | [] => 0
  | x :: r => uptoBulkEntry x + uptoBulkEntries r
def uptoBulkEntry {H : Type} : Lit × DataW H → Nat
  | (.string bytes, d) => bytes.length + uptoBulk d + 1
  | (_, d) => uptoBulk d + 1
 end
def uptoSmall : (H : Type) → List (DataW H) → Bool := fun _ ds => decide (uptoBulkAll ds ≤ 1048576)
def OpenSpec.upto (s : _root_.Go.ChangeSpec) : _root_.Go.OpenSpec := { _root_.Go.OpenSpec.ofChange s with cond := some uptoSmall }

/-- 'palfreylaw23.StrikesApart', WHERE WHAT IT READS IS OF BULK AT MOST 1048576: true; the input reads as it did. -/
def strikesApartUptoRow : OpenClaim := { program := "ytcdjglkcblphlaa", sum := "c85e84a0331a6a5f0d38abad27f4ec342730fd587f94815d3cdbb3570dde49c1", func := "palfrey/palfreylaw23.StrikesApart", spec := "strikesApart", unfollowed := true, recurses := true, apart := false, narrowed := true }
def StrikesApartUptoSaid : Prop := strikesApartUptoRow.holds Try.pinned (OpenSpec.upto strikesApartSpec)

/-- 'palfreylaw23.StrikesPast', WHERE WHAT IT READS IS OF BULK AT MOST 1048576: true; the input reads as it did. -/
def strikesPastUptoRow : OpenClaim := { program := "ytcdjglkcblphlaa", sum := "c85e84a0331a6a5f0d38abad27f4ec342730fd587f94815d3cdbb3570dde49c1", func := "palfrey/palfreylaw23.StrikesPast", spec := "strikesPast", unfollowed := true, recurses := true, apart := false, narrowed := true }
def StrikesPastUptoSaid : Prop := strikesPastUptoRow.holds Try.pinned (OpenSpec.upto strikesPastSpec)

/-- 'palfreylaw23.StrikesThree', WHERE WHAT IT READS IS OF BULK AT MOST 1048576: true; the input reads as it did. -/
def strikesThreeUptoRow : OpenClaim := { program := "ytcdjglkcblphlaa", sum := "c85e84a0331a6a5f0d38abad27f4ec342730fd587f94815d3cdbb3570dde49c1", func := "palfrey/palfreylaw23.StrikesThree", spec := "strikesThree", unfollowed := true, recurses := true, apart := false, narrowed := true }
def StrikesThreeUptoSaid : Prop := strikesThreeUptoRow.holds Try.pinned (OpenSpec.upto strikesThreeSpec)

end Rows
end Go.Proofs.Ytcdjglkcblphlaa
