/-
  No cell of these rows narrows 'for every input' (looked for: loops, veiled, ifaces, maps, wideKeys, modest, calm, conditions, laid).
  DERIVED. THE GIVEN ROWS OF THIS SEAT. 7 by the template 'for every input the law returns true; each argument reads behind the call as it read before'; 0 by the template 'total and deterministic' (their statements: YtjbefkechgnhbaaTotals.lean).
  GIVEN WITH THE SEED: the statements are not yours to turn. If you find one false, say at which input.
  Laid BY PROGRAM, IN A SANDBOX (cutbox-rows.mjs): the forced cells as the released guide's own fill.sh prints them over the translation 95a06844e4b0e6aa… (all of the seat's roots in one cut). By AI agents, Wed Nov 11 2026. No macro, syntax, notation, axiom, sorry.
-/
import Derived.Test.YtjbefkechgnhbaaChecked
import GoSem.Claim
import GoSem.ClaimJoined
import GoSem.ClaimMapViews
import Derived.JoinedTies
import Derived.KernelRfl
namespace Go.Proofs.Ytjbefkechgnhbaa
/- THE CELL 'sum', in the pinned program and in every row, IS THE sha256 OF THE DUMP (.gsa) THAT YtjbefkechgnhbaaProg.lean LOADS. Nothing in Lean hashes anything: it is a label: what it is worth is what the hold of that sum in a sandbox is worth. -/
noncomputable def Try.pinned : Pinned := { name := "ytjbefkechgnhbaa", sum := "95a06844e4b0e6aac43c25325bb67cb5de80141148280a099ac32fb002a62b9a", checked := Try.checked }
namespace Rows
def none {H : Type} : Left H := { results := [], args := [] }

/-- 'riddlelaw08.MeaningSpans': WHATEVER THE INPUT: true; the input reads as it did. -/
def meaningSpansSpec : ChangeSpec := { name := "meaningSpans", fn := fun _ => fun
  | [d1, d2, d3] => { results := [.lit (.bool true)], args := [d1, d2, d3] }
  | _ => none }
def meaningSpansRow : OpenClaim := { program := "ytjbefkechgnhbaa", sum := "95a06844e4b0e6aac43c25325bb67cb5de80141148280a099ac32fb002a62b9a", func := "riddle/riddlelaw08.MeaningSpans", spec := "meaningSpans", unfollowed := true, recurses := true, apart := false }
def MeaningSpansSaid : Prop := meaningSpansRow.holds Try.pinned (OpenSpec.ofChange meaningSpansSpec)

/-- ITS FALSE NEIGHBOUR: 'it returns false'. Refute it at one input. -/
def meaningSpansWrong : ChangeSpec := { name := "meaningSpans", fn := fun _ => fun
  | [d1, d2, d3] => { results := [.lit (.bool false)], args := [d1, d2, d3] }
  | _ => none }
def MeaningSpansWrongFalsely : Prop := meaningSpansRow.holds Try.pinned (OpenSpec.ofChange meaningSpansWrong)

/-- 'riddlelaw08.MeaningRepeats': WHATEVER THE INPUT: true; the input reads as it did. -/
def meaningRepeatsSpec : ChangeSpec := { name := "meaningRepeats", fn := fun _ => fun
  | [d1, d2, d3, d4] => { results := [.lit (.bool true)], args := [d1, d2, d3, d4] }
  | _ => none }
def meaningRepeatsRow : OpenClaim := { program := "ytjbefkechgnhbaa", sum := "95a06844e4b0e6aac43c25325bb67cb5de80141148280a099ac32fb002a62b9a", func := "riddle/riddlelaw08.MeaningRepeats", spec := "meaningRepeats", unfollowed := true, recurses := true, apart := false }
def MeaningRepeatsSaid : Prop := meaningRepeatsRow.holds Try.pinned (OpenSpec.ofChange meaningRepeatsSpec)

/-- ITS FALSE NEIGHBOUR: 'it returns false'. Refute it at one input. -/
def meaningRepeatsWrong : ChangeSpec := { name := "meaningRepeats", fn := fun _ => fun
  | [d1, d2, d3, d4] => { results := [.lit (.bool false)], args := [d1, d2, d3, d4] }
  | _ => none }
def MeaningRepeatsWrongFalsely : Prop := meaningRepeatsRow.holds Try.pinned (OpenSpec.ofChange meaningRepeatsWrong)

/-- 'riddlelaw08.MeaningMatch': WHATEVER THE INPUT: true; the input reads as it did. -/
def meaningMatchSpec : ChangeSpec := { name := "meaningMatch", fn := fun _ => fun
  | [d1, d2, d3, d4, d5] => { results := [.lit (.bool true)], args := [d1, d2, d3, d4, d5] }
  | _ => none }
def meaningMatchRow : OpenClaim := { program := "ytjbefkechgnhbaa", sum := "95a06844e4b0e6aac43c25325bb67cb5de80141148280a099ac32fb002a62b9a", func := "riddle/riddlelaw08.MeaningMatch", spec := "meaningMatch", unfollowed := true, recurses := true, apart := false }
def MeaningMatchSaid : Prop := meaningMatchRow.holds Try.pinned (OpenSpec.ofChange meaningMatchSpec)

/-- ITS FALSE NEIGHBOUR: 'it returns false'. Refute it at one input. -/
def meaningMatchWrong : ChangeSpec := { name := "meaningMatch", fn := fun _ => fun
  | [d1, d2, d3, d4, d5] => { results := [.lit (.bool false)], args := [d1, d2, d3, d4, d5] }
  | _ => none }
def MeaningMatchWrongFalsely : Prop := meaningMatchRow.holds Try.pinned (OpenSpec.ofChange meaningMatchWrong)

/-- 'riddlelaw08.MeaningWide': WHATEVER THE INPUT: true; the input reads as it did. -/
def meaningWideSpec : ChangeSpec := { name := "meaningWide", fn := fun _ => fun
  | [d1, d2, d3] => { results := [.lit (.bool true)], args := [d1, d2, d3] }
  | _ => none }
def meaningWideRow : OpenClaim := { program := "ytjbefkechgnhbaa", sum := "95a06844e4b0e6aac43c25325bb67cb5de80141148280a099ac32fb002a62b9a", func := "riddle/riddlelaw08.MeaningWide", spec := "meaningWide", unfollowed := true, recurses := true, apart := false }
def MeaningWideSaid : Prop := meaningWideRow.holds Try.pinned (OpenSpec.ofChange meaningWideSpec)

/-- ITS FALSE NEIGHBOUR: 'it returns false'. Refute it at one input. -/
def meaningWideWrong : ChangeSpec := { name := "meaningWide", fn := fun _ => fun
  | [d1, d2, d3] => { results := [.lit (.bool false)], args := [d1, d2, d3] }
  | _ => none }
def MeaningWideWrongFalsely : Prop := meaningWideRow.holds Try.pinned (OpenSpec.ofChange meaningWideWrong)

/-- 'riddlelaw08.MeaningAlone': WHATEVER THE INPUT: true; the input reads as it did. -/
def meaningAloneSpec : ChangeSpec := { name := "meaningAlone", fn := fun _ => fun
  | [d1, d2, d3, d4, d5] => { results := [.lit (.bool true)], args := [d1, d2, d3, d4, d5] }
  | _ => none }
def meaningAloneRow : OpenClaim := { program := "ytjbefkechgnhbaa", sum := "95a06844e4b0e6aac43c25325bb67cb5de80141148280a099ac32fb002a62b9a", func := "riddle/riddlelaw08.MeaningAlone", spec := "meaningAlone", unfollowed := true, recurses := true, apart := false }
def MeaningAloneSaid : Prop := meaningAloneRow.holds Try.pinned (OpenSpec.ofChange meaningAloneSpec)

/-- ITS FALSE NEIGHBOUR: 'it returns false'. Refute it at one input. -/
def meaningAloneWrong : ChangeSpec := { name := "meaningAlone", fn := fun _ => fun
  | [d1, d2, d3, d4, d5] => { results := [.lit (.bool false)], args := [d1, d2, d3, d4, d5] }
  | _ => none }
def MeaningAloneWrongFalsely : Prop := meaningAloneRow.holds Try.pinned (OpenSpec.ofChange meaningAloneWrong)

/-- 'riddlelaw08.MeaningAlgebra': WHATEVER THE INPUT: true; the input reads as it did. -/
def meaningAlgebraSpec : ChangeSpec := { name := "meaningAlgebra", fn := fun _ => fun
  | [d1, d2, d3, d4] => { results := [.lit (.bool true)], args := [d1, d2, d3, d4] }
  | _ => none }
def meaningAlgebraRow : OpenClaim := { program := "ytjbefkechgnhbaa", sum := "95a06844e4b0e6aac43c25325bb67cb5de80141148280a099ac32fb002a62b9a", func := "riddle/riddlelaw08.MeaningAlgebra", spec := "meaningAlgebra", unfollowed := true, recurses := true, apart := false }
def MeaningAlgebraSaid : Prop := meaningAlgebraRow.holds Try.pinned (OpenSpec.ofChange meaningAlgebraSpec)

/-- ITS FALSE NEIGHBOUR: 'it returns false'. Refute it at one input. -/
def meaningAlgebraWrong : ChangeSpec := { name := "meaningAlgebra", fn := fun _ => fun
  | [d1, d2, d3, d4] => { results := [.lit (.bool false)], args := [d1, d2, d3, d4] }
  | _ => none }
def MeaningAlgebraWrongFalsely : Prop := meaningAlgebraRow.holds Try.pinned (OpenSpec.ofChange meaningAlgebraWrong)

/-- 'riddlelaw08.MeaningTurned': WHATEVER THE INPUT: true; the input reads as it did. -/
def meaningTurnedSpec : ChangeSpec := { name := "meaningTurned", fn := fun _ => fun
  | [d1, d2, d3] => { results := [.lit (.bool true)], args := [d1, d2, d3] }
  | _ => none }
def meaningTurnedRow : OpenClaim := { program := "ytjbefkechgnhbaa", sum := "95a06844e4b0e6aac43c25325bb67cb5de80141148280a099ac32fb002a62b9a", func := "riddle/riddlelaw08.MeaningTurned", spec := "meaningTurned", unfollowed := true, recurses := true, apart := false }
def MeaningTurnedSaid : Prop := meaningTurnedRow.holds Try.pinned (OpenSpec.ofChange meaningTurnedSpec)

/-- ITS FALSE NEIGHBOUR: 'it returns false'. Refute it at one input. -/
def meaningTurnedWrong : ChangeSpec := { name := "meaningTurned", fn := fun _ => fun
  | [d1, d2, d3] => { results := [.lit (.bool false)], args := [d1, d2, d3] }
  | _ => none }
def MeaningTurnedWrongFalsely : Prop := meaningTurnedRow.holds Try.pinned (OpenSpec.ofChange meaningTurnedWrong)

/- THE SECOND FORM. 'bulk': how many values and letters a reading holds, each counted each time it is reached (what is shared counts as often as it is met; a slice's spare places count too). A statement '..UptoSaid' is the law's where the arguments, and the package variables that the reading takes, are together of bulk at most 1048576: NARROWER than '..Said'. Prove '..Said' where nothing that the law and all that it calls make is longer than what came in: it says more and counts as full. Else prove '..UptoSaid'. A law counts once. -/
mutual
def uptoBulk {H : Type} : DataW H → Nat
  | .lit (.string bytes) => bytes.length + 1
  | .lit _ => 1
  | .nil => 1
  | .ptr d => uptoBulk d + 1
  | .slice elems spare => uptoBulkAll elems + uptoBulkAll spare + 1
  | .agg parts => uptoBulkAll parts + 1
  | .iface _ d => uptoBulk d + 1
  | .map entries => uptoBulkEntries entries + 1
  | .held _ => 1
def uptoBulkAll {H : Type} : List (DataW H) → Nat
  | [] => 0
  | d :: r => uptoBulk d + uptoBulkAll r
def uptoBulkEntries {H : Type} : List (Lit × DataW H) → Nat
  | [] => 0
  | x :: r => uptoBulkEntry x + uptoBulkEntries r
def uptoBulkEntry {H : Type} : Lit × DataW H → Nat
  | (.string bytes, d) => bytes.length + uptoBulk d + 1
  | (_, d) => uptoBulk d + 1
 end
def uptoSmall : (H : Type) → List (DataW H) → Bool := fun _ ds => decide (uptoBulkAll ds ≤ 1048576)
def OpenSpec.upto (s : _root_.Go.ChangeSpec) : _root_.Go.OpenSpec := { _root_.Go.OpenSpec.ofChange s with cond := some uptoSmall }

/-- 'riddlelaw08.MeaningSpans', WHERE WHAT IT READS IS OF BULK AT MOST 1048576: true; the input reads as it did. -/
def meaningSpansUptoRow : OpenClaim := { program := "ytjbefkechgnhbaa", sum := "95a06844e4b0e6aac43c25325bb67cb5de80141148280a099ac32fb002a62b9a", func := "riddle/riddlelaw08.MeaningSpans", spec := "meaningSpans", unfollowed := true, recurses := true, apart := false, narrowed := true }
def MeaningSpansUptoSaid : Prop := meaningSpansUptoRow.holds Try.pinned (OpenSpec.upto meaningSpansSpec)

/-- 'riddlelaw08.MeaningRepeats', WHERE WHAT IT READS IS OF BULK AT MOST 1048576: true; the input reads as it did. -/
def meaningRepeatsUptoRow : OpenClaim := { program := "ytjbefkechgnhbaa", sum := "95a06844e4b0e6aac43c25325bb67cb5de80141148280a099ac32fb002a62b9a", func := "riddle/riddlelaw08.MeaningRepeats", spec := "meaningRepeats", unfollowed := true, recurses := true, apart := false, narrowed := true }
def MeaningRepeatsUptoSaid : Prop := meaningRepeatsUptoRow.holds Try.pinned (OpenSpec.upto meaningRepeatsSpec)

/-- 'riddlelaw08.MeaningMatch', WHERE WHAT IT READS IS OF BULK AT MOST 1048576: true; the input reads as it did. -/
def meaningMatchUptoRow : OpenClaim := { program := "ytjbefkechgnhbaa", sum := "95a06844e4b0e6aac43c25325bb67cb5de80141148280a099ac32fb002a62b9a", func := "riddle/riddlelaw08.MeaningMatch", spec := "meaningMatch", unfollowed := true, recurses := true, apart := false, narrowed := true }
def MeaningMatchUptoSaid : Prop := meaningMatchUptoRow.holds Try.pinned (OpenSpec.upto meaningMatchSpec)

/-- 'riddlelaw08.MeaningWide', WHERE WHAT IT READS IS OF BULK AT MOST 1048576: true; the input reads as it did. -/
def meaningWideUptoRow : OpenClaim := { program := "ytjbefkechgnhbaa", sum := "95a06844e4b0e6aac43c25325bb67cb5de80141148280a099ac32fb002a62b9a", func := "riddle/riddlelaw08.MeaningWide", spec := "meaningWide", unfollowed := true, recurses := true, apart := false, narrowed := true }
def MeaningWideUptoSaid : Prop := meaningWideUptoRow.holds Try.pinned (OpenSpec.upto meaningWideSpec)

/-- 'riddlelaw08.MeaningAlone', WHERE WHAT IT READS IS OF BULK AT MOST 1048576: true; the input reads as it did. -/
def meaningAloneUptoRow : OpenClaim := { program := "ytjbefkechgnhbaa", sum := "95a06844e4b0e6aac43c25325bb67cb5de80141148280a099ac32fb002a62b9a", func := "riddle/riddlelaw08.MeaningAlone", spec := "meaningAlone", unfollowed := true, recurses := true, apart := false, narrowed := true }
def MeaningAloneUptoSaid : Prop := meaningAloneUptoRow.holds Try.pinned (OpenSpec.upto meaningAloneSpec)

/-- 'riddlelaw08.MeaningAlgebra', WHERE WHAT IT READS IS OF BULK AT MOST 1048576: true; the input reads as it did. -/
def meaningAlgebraUptoRow : OpenClaim := { program := "ytjbefkechgnhbaa", sum := "95a06844e4b0e6aac43c25325bb67cb5de80141148280a099ac32fb002a62b9a", func := "riddle/riddlelaw08.MeaningAlgebra", spec := "meaningAlgebra", unfollowed := true, recurses := true, apart := false, narrowed := true }
def MeaningAlgebraUptoSaid : Prop := meaningAlgebraUptoRow.holds Try.pinned (OpenSpec.upto meaningAlgebraSpec)

/-- 'riddlelaw08.MeaningTurned', WHERE WHAT IT READS IS OF BULK AT MOST 1048576: true; the input reads as it did. -/
def meaningTurnedUptoRow : OpenClaim := { program := "ytjbefkechgnhbaa", sum := "95a06844e4b0e6aac43c25325bb67cb5de80141148280a099ac32fb002a62b9a", func := "riddle/riddlelaw08.MeaningTurned", spec := "meaningTurned", unfollowed := true, recurses := true, apart := false, narrowed := true }
def MeaningTurnedUptoSaid : Prop := meaningTurnedUptoRow.holds Try.pinned (OpenSpec.upto meaningTurnedSpec)

end Rows
end Go.Proofs.Ytjbefkechgnhbaa
