/-
  No cell of these rows narrows 'for every input' (looked for: loops, veiled, ifaces, maps, wideKeys, modest, calm, conditions, laid).
  DERIVED. THE GIVEN ROWS OF THIS SEAT. 4 by the template 'for every input the law returns true; each argument reads behind the call as it read before'; 0 by the template 'total and deterministic' (their statements: YtegkdmfgjjcjiaaTotals.lean).
  GIVEN WITH THE SEED: the statements are not yours to turn. If you find one false, say at which input.
  Laid BY PROGRAM, IN A SANDBOX (cutbox-rows.mjs): the forced cells as the released guide's own fill.sh prints them over the translation f0c4cbb3d881ae26… (all of the seat's roots in one cut). By AI agents, Wed Nov 11 2026. No macro, syntax, notation, axiom, sorry.
-/
import Derived.Test.YtegkdmfgjjcjiaaChecked
import GoSem.Claim
import GoSem.ClaimJoined
import GoSem.ClaimMapViews
import Derived.JoinedTies
import Derived.KernelRfl
namespace Go.Proofs.Ytegkdmfgjjcjiaa
/- THE CELL 'sum', in the pinned program and in every row, IS THE sha256 OF THE DUMP (.gsa) THAT YtegkdmfgjjcjiaaProg.lean LOADS. Nothing in Lean hashes anything: it is a label: what it is worth is what the hold of that sum in a sandbox is worth. -/
noncomputable def Try.pinned : Pinned := { name := "ytegkdmfgjjcjiaa", sum := "f0c4cbb3d881ae26dd07f67cd2051f5f2afed6844747deb28345ce8b7726b5ca", checked := Try.checked }
namespace Rows
def none {H : Type} : Left H := { results := [], args := [] }

/-- 'riddlelaw17.BucketMakes': WHATEVER THE INPUT: true; the input reads as it did. -/
def bucketMakesSpec : ChangeSpec := { name := "bucketMakes", fn := fun _ => fun
  | [d1, d2] => { results := [.lit (.bool true)], args := [d1, d2] }
  | _ => none }
def bucketMakesRow : OpenClaim := { program := "ytegkdmfgjjcjiaa", sum := "f0c4cbb3d881ae26dd07f67cd2051f5f2afed6844747deb28345ce8b7726b5ca", func := "riddle/riddlelaw17.BucketMakes", spec := "bucketMakes", unfollowed := true, recurses := true, apart := false }
def BucketMakesSaid : Prop := bucketMakesRow.holds Try.pinned (OpenSpec.ofChange bucketMakesSpec)

/-- ITS FALSE NEIGHBOUR: 'it returns false'. Refute it at one input. -/
def bucketMakesWrong : ChangeSpec := { name := "bucketMakes", fn := fun _ => fun
  | [d1, d2] => { results := [.lit (.bool false)], args := [d1, d2] }
  | _ => none }
def BucketMakesWrongFalsely : Prop := bucketMakesRow.holds Try.pinned (OpenSpec.ofChange bucketMakesWrong)

/-- 'riddlelaw17.BucketSees': WHATEVER THE INPUT: true; the input reads as it did. -/
def bucketSeesSpec : ChangeSpec := { name := "bucketSees", fn := fun _ => fun
  | [d1, d2] => { results := [.lit (.bool true)], args := [d1, d2] }
  | _ => none }
def bucketSeesRow : OpenClaim := { program := "ytegkdmfgjjcjiaa", sum := "f0c4cbb3d881ae26dd07f67cd2051f5f2afed6844747deb28345ce8b7726b5ca", func := "riddle/riddlelaw17.BucketSees", spec := "bucketSees", unfollowed := true, recurses := true, apart := false }
def BucketSeesSaid : Prop := bucketSeesRow.holds Try.pinned (OpenSpec.ofChange bucketSeesSpec)

/-- ITS FALSE NEIGHBOUR: 'it returns false'. Refute it at one input. -/
def bucketSeesWrong : ChangeSpec := { name := "bucketSees", fn := fun _ => fun
  | [d1, d2] => { results := [.lit (.bool false)], args := [d1, d2] }
  | _ => none }
def BucketSeesWrongFalsely : Prop := bucketSeesRow.holds Try.pinned (OpenSpec.ofChange bucketSeesWrong)

/-- 'riddlelaw17.BucketFew': WHATEVER THE INPUT: true; the input reads as it did. -/
def bucketFewSpec : ChangeSpec := { name := "bucketFew", fn := fun _ => fun
  | [d1, d2] => { results := [.lit (.bool true)], args := [d1, d2] }
  | _ => none }
def bucketFewRow : OpenClaim := { program := "ytegkdmfgjjcjiaa", sum := "f0c4cbb3d881ae26dd07f67cd2051f5f2afed6844747deb28345ce8b7726b5ca", func := "riddle/riddlelaw17.BucketFew", spec := "bucketFew", unfollowed := true, recurses := true, apart := false }
def BucketFewSaid : Prop := bucketFewRow.holds Try.pinned (OpenSpec.ofChange bucketFewSpec)

/-- ITS FALSE NEIGHBOUR: 'it returns false'. Refute it at one input. -/
def bucketFewWrong : ChangeSpec := { name := "bucketFew", fn := fun _ => fun
  | [d1, d2] => { results := [.lit (.bool false)], args := [d1, d2] }
  | _ => none }
def BucketFewWrongFalsely : Prop := bucketFewRow.holds Try.pinned (OpenSpec.ofChange bucketFewWrong)

/-- 'riddlelaw17.BucketLooks': WHATEVER THE INPUT: true; the input reads as it did. -/
def bucketLooksSpec : ChangeSpec := { name := "bucketLooks", fn := fun _ => fun
  | [d1, d2, d3] => { results := [.lit (.bool true)], args := [d1, d2, d3] }
  | _ => none }
def bucketLooksRow : OpenClaim := { program := "ytegkdmfgjjcjiaa", sum := "f0c4cbb3d881ae26dd07f67cd2051f5f2afed6844747deb28345ce8b7726b5ca", func := "riddle/riddlelaw17.BucketLooks", spec := "bucketLooks", unfollowed := true, recurses := true, apart := false }
def BucketLooksSaid : Prop := bucketLooksRow.holds Try.pinned (OpenSpec.ofChange bucketLooksSpec)

/-- ITS FALSE NEIGHBOUR: 'it returns false'. Refute it at one input. -/
def bucketLooksWrong : ChangeSpec := { name := "bucketLooks", fn := fun _ => fun
  | [d1, d2, d3] => { results := [.lit (.bool false)], args := [d1, d2, d3] }
  | _ => none }
def BucketLooksWrongFalsely : Prop := bucketLooksRow.holds Try.pinned (OpenSpec.ofChange bucketLooksWrong)

/- THE SECOND FORM. 'bulk': how many values and letters a reading holds, each counted each time it is reached (what is shared counts as often as it is met; a slice's spare places count too). A statement '..UptoSaid' is the law's where the arguments, and the package variables that the reading takes, are together of bulk at most 1048576: NARROWER than '..Said'. Prove '..Said' where nothing that the law and all that it calls make is longer than what came in: it says more and counts as full. Else prove '..UptoSaid'. A law counts once. -/
mutual
def uptoBulk {H : Type} : DataW H → Nat
  | .lit (.string bytes) => bytes.length + 1
  | .lit _ => 1
  | .nil => 1
  | .ptr d => uptoBulk d + 1
  | .slice elems spare => uptoBulkAll elems + uptoBulkAll spare + 1
  | .agg parts => uptoBulkAll parts + 1
  | .iface _ d => uptoBulk d + 1
  | .map entries => uptoBulkEntries entries + 1
  | .held _ => 1
def uptoBulkAll {H : Type} : List (DataW H) → Nat
  | [] => 0
  | d :: r => uptoBulk d + uptoBulkAll r
def uptoBulkEntries {H : Type} : List (Lit × DataW H) → Nat
  | [] => 0
  | x :: r => uptoBulkEntry x + uptoBulkEntries r
def uptoBulkEntry {H : Type} : Lit × DataW H → Nat
  | (.string bytes, d) => bytes.length + uptoBulk d + 1
  | (_, d) => uptoBulk d + 1
 end
def uptoSmall : (H : Type) → List (DataW H) → Bool := fun _ ds => decide (uptoBulkAll ds ≤ 1048576)
def OpenSpec.upto (s : _root_.Go.ChangeSpec) : _root_.Go.OpenSpec := { _root_.Go.OpenSpec.ofChange s with cond := some uptoSmall }

/-- 'riddlelaw17.BucketMakes', WHERE WHAT IT READS IS OF BULK AT MOST 1048576: true; the input reads as it did. -/
def bucketMakesUptoRow : OpenClaim := { program := "ytegkdmfgjjcjiaa", sum := "f0c4cbb3d881ae26dd07f67cd2051f5f2afed6844747deb28345ce8b7726b5ca", func := "riddle/riddlelaw17.BucketMakes", spec := "bucketMakes", unfollowed := true, recurses := true, apart := false, narrowed := true }
def BucketMakesUptoSaid : Prop := bucketMakesUptoRow.holds Try.pinned (OpenSpec.upto bucketMakesSpec)

/-- 'riddlelaw17.BucketSees', WHERE WHAT IT READS IS OF BULK AT MOST 1048576: true; the input reads as it did. -/
def bucketSeesUptoRow : OpenClaim := { program := "ytegkdmfgjjcjiaa", sum := "f0c4cbb3d881ae26dd07f67cd2051f5f2afed6844747deb28345ce8b7726b5ca", func := "riddle/riddlelaw17.BucketSees", spec := "bucketSees", unfollowed := true, recurses := true, apart := false, narrowed := true }
def BucketSeesUptoSaid : Prop := bucketSeesUptoRow.holds Try.pinned (OpenSpec.upto bucketSeesSpec)

/-- 'riddlelaw17.BucketFew', WHERE WHAT IT READS IS OF BULK AT MOST 1048576: true; the input reads as it did. -/
def bucketFewUptoRow : OpenClaim := { program := "ytegkdmfgjjcjiaa", sum := "f0c4cbb3d881ae26dd07f67cd2051f5f2afed6844747deb28345ce8b7726b5ca", func := "riddle/riddlelaw17.BucketFew", spec := "bucketFew", unfollowed := true, recurses := true, apart := false, narrowed := true }
def BucketFewUptoSaid : Prop := bucketFewUptoRow.holds Try.pinned (OpenSpec.upto bucketFewSpec)

/-- 'riddlelaw17.BucketLooks', WHERE WHAT IT READS IS OF BULK AT MOST 1048576: true; the input reads as it did. -/
def bucketLooksUptoRow : OpenClaim := { program := "ytegkdmfgjjcjiaa", sum := "f0c4cbb3d881ae26dd07f67cd2051f5f2afed6844747deb28345ce8b7726b5ca", func := "riddle/riddlelaw17.BucketLooks", spec := "bucketLooks", unfollowed := true, recurses := true, apart := false, narrowed := true }
def BucketLooksUptoSaid : Prop := bucketLooksUptoRow.holds Try.pinned (OpenSpec.upto bucketLooksSpec)

end Rows
end Go.Proofs.Ytegkdmfgjjcjiaa
