/-
  No cell of these rows narrows 'for every input' (looked for: loops, veiled, ifaces, maps, wideKeys, modest, calm, conditions, laid).
  DERIVED. THE GIVEN ROWS OF THIS SEAT. 6 by the template 'for every input the law returns true; each argument reads behind the call as it read before'; 0 by the template 'total and deterministic' (their statements: YtahajbmidocihaaTotals.lean).
  GIVEN WITH THE SEED: the statements are not yours to turn. If you find one false, say at which input.
  Laid BY PROGRAM, IN A SANDBOX (cutbox-rows.mjs): the forced cells as the released guide's own fill.sh prints them over the translation d9bb88a57742e52b… (all of the seat's roots in one cut). By AI agents, Wed Nov 11 2026. No macro, syntax, notation, axiom, sorry.
-/
import Derived.Test.YtahajbmidocihaaChecked
import GoSem.Claim
import GoSem.ClaimJoined
import GoSem.ClaimMapViews
import Derived.JoinedTies
import Derived.KernelRfl
namespace Go.Proofs.Ytahajbmidocihaa
/- THE CELL 'sum', in the pinned program and in every row, IS THE sha256 OF THE DUMP (.gsa) THAT YtahajbmidocihaaProg.lean LOADS. Nothing in Lean hashes anything: it is a label: what it is worth is what the hold of that sum in a sandbox is worth. -/
noncomputable def Try.pinned : Pinned := { name := "ytahajbmidocihaa", sum := "d9bb88a57742e52b1727bdac45b259921262d725dde828042553f67fde552248", checked := Try.checked }
namespace Rows
def none {H : Type} : Left H := { results := [], args := [] }

/-- 'riddlelaw03.BytesSealed': WHATEVER THE INPUT: true; the input reads as it did. -/
def bytesSealedSpec : ChangeSpec := { name := "bytesSealed", fn := fun _ => fun
  | [d1, d2, d3] => { results := [.lit (.bool true)], args := [d1, d2, d3] }
  | _ => none }
def bytesSealedRow : OpenClaim := { program := "ytahajbmidocihaa", sum := "d9bb88a57742e52b1727bdac45b259921262d725dde828042553f67fde552248", func := "riddle/riddlelaw03.BytesSealed", spec := "bytesSealed", apart := false }
def BytesSealedSaid : Prop := bytesSealedRow.holds Try.pinned (OpenSpec.ofChange bytesSealedSpec)

/-- ITS FALSE NEIGHBOUR: 'it returns false'. Refute it at one input. -/
def bytesSealedWrong : ChangeSpec := { name := "bytesSealed", fn := fun _ => fun
  | [d1, d2, d3] => { results := [.lit (.bool false)], args := [d1, d2, d3] }
  | _ => none }
def BytesSealedWrongFalsely : Prop := bytesSealedRow.holds Try.pinned (OpenSpec.ofChange bytesSealedWrong)

/-- 'riddlelaw03.BytesPut': WHATEVER THE INPUT: true; the input reads as it did. -/
def bytesPutSpec : ChangeSpec := { name := "bytesPut", fn := fun _ => fun
  | [d] => { results := [.lit (.bool true)], args := [d] }
  | _ => none }
def bytesPutRow : OpenClaim := { program := "ytahajbmidocihaa", sum := "d9bb88a57742e52b1727bdac45b259921262d725dde828042553f67fde552248", func := "riddle/riddlelaw03.BytesPut", spec := "bytesPut", apart := false }
def BytesPutSaid : Prop := bytesPutRow.holds Try.pinned (OpenSpec.ofChange bytesPutSpec)

/-- ITS FALSE NEIGHBOUR: 'it returns false'. Refute it at one input. -/
def bytesPutWrong : ChangeSpec := { name := "bytesPut", fn := fun _ => fun
  | [d] => { results := [.lit (.bool false)], args := [d] }
  | _ => none }
def BytesPutWrongFalsely : Prop := bytesPutRow.holds Try.pinned (OpenSpec.ofChange bytesPutWrong)

/-- 'riddlelaw03.BytesRead': WHATEVER THE INPUT: true; the input reads as it did. -/
def bytesReadSpec : ChangeSpec := { name := "bytesRead", fn := fun _ => fun
  | [d1, d2] => { results := [.lit (.bool true)], args := [d1, d2] }
  | _ => none }
def bytesReadRow : OpenClaim := { program := "ytahajbmidocihaa", sum := "d9bb88a57742e52b1727bdac45b259921262d725dde828042553f67fde552248", func := "riddle/riddlelaw03.BytesRead", spec := "bytesRead", apart := false }
def BytesReadSaid : Prop := bytesReadRow.holds Try.pinned (OpenSpec.ofChange bytesReadSpec)

/-- ITS FALSE NEIGHBOUR: 'it returns false'. Refute it at one input. -/
def bytesReadWrong : ChangeSpec := { name := "bytesRead", fn := fun _ => fun
  | [d1, d2] => { results := [.lit (.bool false)], args := [d1, d2] }
  | _ => none }
def BytesReadWrongFalsely : Prop := bytesReadRow.holds Try.pinned (OpenSpec.ofChange bytesReadWrong)

/-- 'riddlelaw03.BytesBack': WHATEVER THE INPUT: true; the input reads as it did. -/
def bytesBackSpec : ChangeSpec := { name := "bytesBack", fn := fun _ => fun
  | [d] => { results := [.lit (.bool true)], args := [d] }
  | _ => none }
def bytesBackRow : OpenClaim := { program := "ytahajbmidocihaa", sum := "d9bb88a57742e52b1727bdac45b259921262d725dde828042553f67fde552248", func := "riddle/riddlelaw03.BytesBack", spec := "bytesBack", apart := false }
def BytesBackSaid : Prop := bytesBackRow.holds Try.pinned (OpenSpec.ofChange bytesBackSpec)

/-- ITS FALSE NEIGHBOUR: 'it returns false'. Refute it at one input. -/
def bytesBackWrong : ChangeSpec := { name := "bytesBack", fn := fun _ => fun
  | [d] => { results := [.lit (.bool false)], args := [d] }
  | _ => none }
def BytesBackWrongFalsely : Prop := bytesBackRow.holds Try.pinned (OpenSpec.ofChange bytesBackWrong)

/-- 'riddlelaw03.BytesOne': WHATEVER THE INPUT: true; the input reads as it did. -/
def bytesOneSpec : ChangeSpec := { name := "bytesOne", fn := fun _ => fun
  | [d1, d2] => { results := [.lit (.bool true)], args := [d1, d2] }
  | _ => none }
def bytesOneRow : OpenClaim := { program := "ytahajbmidocihaa", sum := "d9bb88a57742e52b1727bdac45b259921262d725dde828042553f67fde552248", func := "riddle/riddlelaw03.BytesOne", spec := "bytesOne", apart := false }
def BytesOneSaid : Prop := bytesOneRow.holds Try.pinned (OpenSpec.ofChange bytesOneSpec)

/-- ITS FALSE NEIGHBOUR: 'it returns false'. Refute it at one input. -/
def bytesOneWrong : ChangeSpec := { name := "bytesOne", fn := fun _ => fun
  | [d1, d2] => { results := [.lit (.bool false)], args := [d1, d2] }
  | _ => none }
def BytesOneWrongFalsely : Prop := bytesOneRow.holds Try.pinned (OpenSpec.ofChange bytesOneWrong)

/-- 'riddlelaw03.BytesNone': WHATEVER THE INPUT: true; the input reads as it did. -/
def bytesNoneSpec : ChangeSpec := { name := "bytesNone", fn := fun _ => fun
  | [d1, d2] => { results := [.lit (.bool true)], args := [d1, d2] }
  | _ => none }
def bytesNoneRow : OpenClaim := { program := "ytahajbmidocihaa", sum := "d9bb88a57742e52b1727bdac45b259921262d725dde828042553f67fde552248", func := "riddle/riddlelaw03.BytesNone", spec := "bytesNone", apart := false }
def BytesNoneSaid : Prop := bytesNoneRow.holds Try.pinned (OpenSpec.ofChange bytesNoneSpec)

/-- ITS FALSE NEIGHBOUR: 'it returns false'. Refute it at one input. -/
def bytesNoneWrong : ChangeSpec := { name := "bytesNone", fn := fun _ => fun
  | [d1, d2] => { results := [.lit (.bool false)], args := [d1, d2] }
  | _ => none }
def BytesNoneWrongFalsely : Prop := bytesNoneRow.holds Try.pinned (OpenSpec.ofChange bytesNoneWrong)

/- THE SECOND FORM. 'bulk': how many values and letters a reading holds, each counted each time it is reached (what is shared counts as often as it is met; a slice's spare places count too). A statement '..UptoSaid' is the law's where the arguments, and the package variables that the reading takes, are together of bulk at most 1048576: NARROWER than '..Said'. Prove '..Said' where nothing that the law and all that it calls make is longer than what came in: it says more and counts as full. Else prove '..UptoSaid'. A law counts once. -/
mutual
def uptoBulk {H : Type} : DataW H → Nat
  | .lit (.string bytes) => bytes.length + 1
  | .lit _ => 1
  | .nil => 1
  | .ptr d => uptoBulk d + 1
  | .slice elems spare => uptoBulkAll elems + uptoBulkAll spare + 1
  | .agg parts => uptoBulkAll parts + 1
  | .iface _ d => uptoBulk d + 1
  | .map entries => uptoBulkEntries entries + 1
  | .held _ => 1
def uptoBulkAll {H : Type} : List (DataW H) → Nat
  | [] => 0
  | d :: r => uptoBulk d + uptoBulkAll r
def uptoBulkEntries {H : Type} : List (Lit × DataW H) → Nat
  | [] => 0
  | x :: r => uptoBulkEntry x + uptoBulkEntries r
def uptoBulkEntry {H : Type} : Lit × DataW H → Nat
  | (.string bytes, d) => bytes.length + uptoBulk d + 1
  | (_, d) => uptoBulk d + 1
 end
def uptoSmall : (H : Type) → List (DataW H) → Bool := fun _ ds => decide (uptoBulkAll ds ≤ 1048576)
def OpenSpec.upto (s : _root_.Go.ChangeSpec) : _root_.Go.OpenSpec := { _root_.Go.OpenSpec.ofChange s with cond := some uptoSmall }

/-- 'riddlelaw03.BytesSealed', WHERE WHAT IT READS IS OF BULK AT MOST 1048576: true; the input reads as it did. -/
def bytesSealedUptoRow : OpenClaim := { program := "ytahajbmidocihaa", sum := "d9bb88a57742e52b1727bdac45b259921262d725dde828042553f67fde552248", func := "riddle/riddlelaw03.BytesSealed", spec := "bytesSealed", apart := false, narrowed := true }
def BytesSealedUptoSaid : Prop := bytesSealedUptoRow.holds Try.pinned (OpenSpec.upto bytesSealedSpec)

/-- 'riddlelaw03.BytesPut', WHERE WHAT IT READS IS OF BULK AT MOST 1048576: true; the input reads as it did. -/
def bytesPutUptoRow : OpenClaim := { program := "ytahajbmidocihaa", sum := "d9bb88a57742e52b1727bdac45b259921262d725dde828042553f67fde552248", func := "riddle/riddlelaw03.BytesPut", spec := "bytesPut", apart := false, narrowed := true }
def BytesPutUptoSaid : Prop := bytesPutUptoRow.holds Try.pinned (OpenSpec.upto bytesPutSpec)

/-- 'riddlelaw03.BytesRead', WHERE WHAT IT READS IS OF BULK AT MOST 1048576: true; the input reads as it did. -/
def bytesReadUptoRow : OpenClaim := { program := "ytahajbmidocihaa", sum := "d9bb88a57742e52b1727bdac45b259921262d725dde828042553f67fde552248", func := "riddle/riddlelaw03.BytesRead", spec := "bytesRead", apart := false, narrowed := true }
def BytesReadUptoSaid : Prop := bytesReadUptoRow.holds Try.pinned (OpenSpec.upto bytesReadSpec)

/-- 'riddlelaw03.BytesBack', WHERE WHAT IT READS IS OF BULK AT MOST 1048576: true; the input reads as it did. -/
def bytesBackUptoRow : OpenClaim := { program := "ytahajbmidocihaa", sum := "d9bb88a57742e52b1727bdac45b259921262d725dde828042553f67fde552248", func := "riddle/riddlelaw03.BytesBack", spec := "bytesBack", apart := false, narrowed := true }
def BytesBackUptoSaid : Prop := bytesBackUptoRow.holds Try.pinned (OpenSpec.upto bytesBackSpec)

/-- 'riddlelaw03.BytesOne', WHERE WHAT IT READS IS OF BULK AT MOST 1048576: true; the input reads as it did. -/
def bytesOneUptoRow : OpenClaim := { program := "ytahajbmidocihaa", sum := "d9bb88a57742e52b1727bdac45b259921262d725dde828042553f67fde552248", func := "riddle/riddlelaw03.BytesOne", spec := "bytesOne", apart := false, narrowed := true }
def BytesOneUptoSaid : Prop := bytesOneUptoRow.holds Try.pinned (OpenSpec.upto bytesOneSpec)

/-- 'riddlelaw03.BytesNone', WHERE WHAT IT READS IS OF BULK AT MOST 1048576: true; the input reads as it did. -/
def bytesNoneUptoRow : OpenClaim := { program := "ytahajbmidocihaa", sum := "d9bb88a57742e52b1727bdac45b259921262d725dde828042553f67fde552248", func := "riddle/riddlelaw03.BytesNone", spec := "bytesNone", apart := false, narrowed := true }
def BytesNoneUptoSaid : Prop := bytesNoneUptoRow.holds Try.pinned (OpenSpec.upto bytesNoneSpec)

end Rows
end Go.Proofs.Ytahajbmidocihaa
