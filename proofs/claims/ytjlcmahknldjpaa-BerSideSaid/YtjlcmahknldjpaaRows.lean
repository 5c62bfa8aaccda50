/-
  No cell of these rows narrows 'for every input' (looked for: loops, veiled, ifaces, maps, wideKeys, modest, calm, conditions, laid).
  DERIVED. THE GIVEN ROWS OF THIS SEAT. 5 by the template 'for every input the law returns true; each argument reads behind the call as it read before'; 0 by the template 'total and deterministic' (their statements: YtjlcmahknldjpaaTotals.lean).
  GIVEN WITH THE SEED: the statements are not yours to turn. If you find one false, say at which input.
  Laid BY PROGRAM, IN A SANDBOX (cutbox-rows.mjs): the forced cells as the released guide's own fill.sh prints them over the translation f43764f6a949c621… (all of the seat's roots in one cut). By AI agents, Wed Nov 11 2026. No macro, syntax, notation, axiom, sorry.
-/
import Derived.Test.YtjlcmahknldjpaaChecked
import GoSem.Claim
import GoSem.ClaimJoined
import GoSem.ClaimMapViews
import Derived.JoinedTies
import Derived.KernelRfl
namespace Go.Proofs.Ytjlcmahknldjpaa
/- THE CELL 'sum', in the pinned program and in every row, IS THE sha256 OF THE DUMP (.gsa) THAT YtjlcmahknldjpaaProg.lean LOADS. Nothing in Lean hashes anything: it is a label: what it is worth is what the hold of that sum in a sandbox is worth. -/
noncomputable def Try.pinned : Pinned := { name := "ytjlcmahknldjpaa", sum := "f43764f6a949c62101712bf42dde0bb43b96c0052b0eb71b7be379bf6a312061", checked := Try.checked }
namespace Rows
def none {H : Type} : Left H := { results := [], args := [] }

/-- 'brooklaw1.BerBytes': WHATEVER THE INPUT: true; the input reads as it did. -/
def berBytesSpec : ChangeSpec := { name := "berBytes", fn := fun _ => fun
  | [d1, d2] => { results := [.lit (.bool true)], args := [d1, d2] }
  | _ => none }
def berBytesRow : OpenClaim := { program := "ytjlcmahknldjpaa", sum := "f43764f6a949c62101712bf42dde0bb43b96c0052b0eb71b7be379bf6a312061", func := "brook/brooklaw1.BerBytes", spec := "berBytes", recurses := true, apart := false }
def BerBytesSaid : Prop := berBytesRow.holds Try.pinned (OpenSpec.ofChange berBytesSpec)

/-- ITS FALSE NEIGHBOUR: 'it returns false'. Refute it at one input. -/
def berBytesWrong : ChangeSpec := { name := "berBytes", fn := fun _ => fun
  | [d1, d2] => { results := [.lit (.bool false)], args := [d1, d2] }
  | _ => none }
def BerBytesWrongFalsely : Prop := berBytesRow.holds Try.pinned (OpenSpec.ofChange berBytesWrong)

/-- 'brooklaw1.BerBack': WHATEVER THE INPUT: true; the input reads as it did. -/
def berBackSpec : ChangeSpec := { name := "berBack", fn := fun _ => fun
  | [d1, d2, d3, d4, d5, d6, d7] => { results := [.lit (.bool true)], args := [d1, d2, d3, d4, d5, d6, d7] }
  | _ => none }
def berBackRow : OpenClaim := { program := "ytjlcmahknldjpaa", sum := "f43764f6a949c62101712bf42dde0bb43b96c0052b0eb71b7be379bf6a312061", func := "brook/brooklaw1.BerBack", spec := "berBack", recurses := true, apart := false }
def BerBackSaid : Prop := berBackRow.holds Try.pinned (OpenSpec.ofChange berBackSpec)

/-- ITS FALSE NEIGHBOUR: 'it returns false'. Refute it at one input. -/
def berBackWrong : ChangeSpec := { name := "berBack", fn := fun _ => fun
  | [d1, d2, d3, d4, d5, d6, d7] => { results := [.lit (.bool false)], args := [d1, d2, d3, d4, d5, d6, d7] }
  | _ => none }
def BerBackWrongFalsely : Prop := berBackRow.holds Try.pinned (OpenSpec.ofChange berBackWrong)

/-- 'brooklaw1.BerDeep': WHATEVER THE INPUT: true; the input reads as it did. -/
def berDeepSpec : ChangeSpec := { name := "berDeep", fn := fun _ => fun
  | [d1, d2] => { results := [.lit (.bool true)], args := [d1, d2] }
  | _ => none }
def berDeepRow : OpenClaim := { program := "ytjlcmahknldjpaa", sum := "f43764f6a949c62101712bf42dde0bb43b96c0052b0eb71b7be379bf6a312061", func := "brook/brooklaw1.BerDeep", spec := "berDeep", recurses := true, apart := false }
def BerDeepSaid : Prop := berDeepRow.holds Try.pinned (OpenSpec.ofChange berDeepSpec)

/-- ITS FALSE NEIGHBOUR: 'it returns false'. Refute it at one input. -/
def berDeepWrong : ChangeSpec := { name := "berDeep", fn := fun _ => fun
  | [d1, d2] => { results := [.lit (.bool false)], args := [d1, d2] }
  | _ => none }
def BerDeepWrongFalsely : Prop := berDeepRow.holds Try.pinned (OpenSpec.ofChange berDeepWrong)

/-- 'brooklaw1.BerLengths': WHATEVER THE INPUT: true; the input reads as it did. -/
def berLengthsSpec : ChangeSpec := { name := "berLengths", fn := fun _ => fun
  | [d1, d2] => { results := [.lit (.bool true)], args := [d1, d2] }
  | _ => none }
def berLengthsRow : OpenClaim := { program := "ytjlcmahknldjpaa", sum := "f43764f6a949c62101712bf42dde0bb43b96c0052b0eb71b7be379bf6a312061", func := "brook/brooklaw1.BerLengths", spec := "berLengths", recurses := true, apart := false }
def BerLengthsSaid : Prop := berLengthsRow.holds Try.pinned (OpenSpec.ofChange berLengthsSpec)

/-- ITS FALSE NEIGHBOUR: 'it returns false'. Refute it at one input. -/
def berLengthsWrong : ChangeSpec := { name := "berLengths", fn := fun _ => fun
  | [d1, d2] => { results := [.lit (.bool false)], args := [d1, d2] }
  | _ => none }
def BerLengthsWrongFalsely : Prop := berLengthsRow.holds Try.pinned (OpenSpec.ofChange berLengthsWrong)

/-- 'brooklaw1.BerSide': WHATEVER THE INPUT: true; the input reads as it did. -/
def berSideSpec : ChangeSpec := { name := "berSide", fn := fun _ => fun
  | [d1, d2] => { results := [.lit (.bool true)], args := [d1, d2] }
  | _ => none }
def berSideRow : OpenClaim := { program := "ytjlcmahknldjpaa", sum := "f43764f6a949c62101712bf42dde0bb43b96c0052b0eb71b7be379bf6a312061", func := "brook/brooklaw1.BerSide", spec := "berSide", recurses := true, apart := false }
def BerSideSaid : Prop := berSideRow.holds Try.pinned (OpenSpec.ofChange berSideSpec)

/-- ITS FALSE NEIGHBOUR: 'it returns false'. Refute it at one input. -/
def berSideWrong : ChangeSpec := { name := "berSide", fn := fun _ => fun
  | [d1, d2] => { results := [.lit (.bool false)], args := [d1, d2] }
  | _ => none }
def BerSideWrongFalsely : Prop := berSideRow.holds Try.pinned (OpenSpec.ofChange berSideWrong)

/- THE SECOND FORM. 'bulk': how many values and letters a reading holds, each counted each time it is reached (what is shared counts as often as it is met; a slice's spare places count too). A statement '..UptoSaid' is the law's where the arguments, and the package variables that the reading takes, are together of bulk at most 1048576: NARROWER than '..Said'. Prove '..Said' where nothing that the law and all that it calls make is longer than what came in: it says more and counts as full. Else prove '..UptoSaid'. A law counts once. -/
mutual
def uptoBulk {H : Type} : DataW H → Nat
  | .lit (.string bytes) => bytes.length + 1
  | .lit _ => 1
  | .nil => 1
  | .ptr d => uptoBulk d + 1
  | .slice elems spare => uptoBulkAll elems + uptoBulkAll spare + 1
  | .agg parts => uptoBulkAll parts + 1
  | .iface _ d => uptoBulk d + 1
  | .map entries => uptoBulkEntries entries + 1
  | .held _ => 1
def uptoBulkAll {H : Type} : List (DataW H) → Nat
  | [] => 0
  | d :: r => uptoBulk d + uptoBulkAll r
def uptoBulkEntries {H : Type} : List (Lit × DataW H) → Nat
  | [] => 0
  | x :: r => uptoBulkEntry x + uptoBulkEntries r
def uptoBulkEntry {H : Type} : Lit × DataW H → Nat
  | (.string bytes, d) => bytes.length + uptoBulk d + 1
  | (_, d) => uptoBulk d + 1
 end
def uptoSmall : (H : Type) → List (DataW H) → Bool := fun _ ds => decide (uptoBulkAll ds ≤ 1048576)
def OpenSpec.upto (s : _root_.Go.ChangeSpec) : _root_.Go.OpenSpec := { _root_.Go.OpenSpec.ofChange s with cond := some uptoSmall }

/-- 'brooklaw1.BerBytes', WHERE WHAT IT READS IS OF BULK AT MOST 1048576: true; the input reads as it did. -/
def berBytesUptoRow : OpenClaim := { program := "ytjlcmahknldjpaa", sum := "f43764f6a949c62101712bf42dde0bb43b96c0052b0eb71b7be379bf6a312061", func := "brook/brooklaw1.BerBytes", spec := "berBytes", recurses := true, apart := false, narrowed := true }
def BerBytesUptoSaid : Prop := berBytesUptoRow.holds Try.pinned (OpenSpec.upto berBytesSpec)

/-- 'brooklaw1.BerBack', WHERE WHAT IT READS IS OF BULK AT MOST 1048576: true; the input reads as it did. -/
def berBackUptoRow : OpenClaim := { program := "ytjlcmahknldjpaa", sum := "f43764f6a949c62101712bf42dde0bb43b96c0052b0eb71b7be379bf6a312061", func := "brook/brooklaw1.BerBack", spec := "berBack", recurses := true, apart := false, narrowed := true }
def BerBackUptoSaid : Prop := berBackUptoRow.holds Try.pinned (OpenSpec.upto berBackSpec)

/-- 'brooklaw1.BerDeep', WHERE WHAT IT READS IS OF BULK AT MOST 1048576: true; the input reads as it did. -/
def berDeepUptoRow : OpenClaim := { program := "ytjlcmahknldjpaa", sum := "f43764f6a949c62101712bf42dde0bb43b96c0052b0eb71b7be379bf6a312061", func := "brook/brooklaw1.BerDeep", spec := "berDeep", recurses := true, apart := false, narrowed := true }
def BerDeepUptoSaid : Prop := berDeepUptoRow.holds Try.pinned (OpenSpec.upto berDeepSpec)

/-- 'brooklaw1.BerLengths', WHERE WHAT IT READS IS OF BULK AT MOST 1048576: true; the input reads as it did. -/
def berLengthsUptoRow : OpenClaim := { program := "ytjlcmahknldjpaa", sum := "f43764f6a949c62101712bf42dde0bb43b96c0052b0eb71b7be379bf6a312061", func := "brook/brooklaw1.BerLengths", spec := "berLengths", recurses := true, apart := false, narrowed := true }
def BerLengthsUptoSaid : Prop := berLengthsUptoRow.holds Try.pinned (OpenSpec.upto berLengthsSpec)

/-- 'brooklaw1.BerSide', WHERE WHAT IT READS IS OF BULK AT MOST 1048576: true; the input reads as it did. -/
def berSideUptoRow : OpenClaim := { program := "ytjlcmahknldjpaa", sum := "f43764f6a949c62101712bf42dde0bb43b96c0052b0eb71b7be379bf6a312061", func := "brook/brooklaw1.BerSide", spec := "berSide", recurses := true, apart := false, narrowed := true }
def BerSideUptoSaid : Prop := berSideUptoRow.holds Try.pinned (OpenSpec.upto berSideSpec)

end Rows
end Go.Proofs.Ytjlcmahknldjpaa
