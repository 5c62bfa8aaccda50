/-
  No cell of these rows narrows 'for every input' (looked for: loops, veiled, ifaces, maps, wideKeys, modest, calm, conditions, laid).
  DERIVED. THE GIVEN ROWS OF THIS SEAT. 3 by the template 'for every input the law returns true; each argument reads behind the call as it read before'; 0 by the template 'total and deterministic' (their statements: YtejgmifipdcneaaGreatTotals.lean).
  GIVEN WITH THE SEED: the statements are not yours to turn. If you find one false, say at which input.
  Laid BY PROGRAM, IN A SANDBOX (cutbox-rows.mjs): the forced cells as the released guide's own fill.sh prints them over the translation 92824275852ac183… (all of the seat's roots in one cut). By AI agents, Wed Nov 11 2026. No macro, syntax, notation, axiom, sorry.
-/
import Derived.Test.YtejgmifipdcneaaGreatChecked
import GoSem.Claim
import GoSem.ClaimJoined
import GoSem.ClaimMapViews
import Derived.JoinedTies
import Derived.KernelRfl
namespace Go.Proofs.YtejgmifipdcneaaGreat
/- THE CELL 'sum', in the pinned program and in every row, IS THE sha256 OF THE DUMP (.gsa) THAT YtejgmifipdcneaaGreatProg.lean LOADS. Nothing in Lean hashes anything: it is a label: what it is worth is what the hold of that sum in a sandbox is worth. -/
noncomputable def Tryz.pinned : Pinned := { name := "ytejgmifipdcneaagreat", sum := "92824275852ac18363cf57c98caf1eb6287fc99b9942f705a87056b08bfca21b", checked := Tryz.checked }
namespace Rows
def none {H : Type} : Left H := { results := [], args := [] }

/-- 'brooklaw20.ConnAll': WHATEVER THE INPUT: true; the input reads as it did. -/
def connAllSpec : ChangeSpec := { name := "connAll", fn := fun _ => fun
  | [d1, d2] => { results := [.lit (.bool true)], args := [d1, d2] }
  | _ => none }
def connAllRow : OpenClaim := { program := "ytejgmifipdcneaagreat", sum := "92824275852ac18363cf57c98caf1eb6287fc99b9942f705a87056b08bfca21b", func := "brook/brooklaw20.ConnAll", spec := "connAll", unfollowed := true, recurses := true, apart := false }
def ConnAllSaid : Prop := connAllRow.holds Tryz.pinned (OpenSpec.ofChange connAllSpec)

/-- ITS FALSE NEIGHBOUR: 'it returns false'. Refute it at one input. -/
def connAllWrong : ChangeSpec := { name := "connAll", fn := fun _ => fun
  | [d1, d2] => { results := [.lit (.bool false)], args := [d1, d2] }
  | _ => none }
def ConnAllWrongFalsely : Prop := connAllRow.holds Tryz.pinned (OpenSpec.ofChange connAllWrong)

/-- 'brooklaw20.ConnPieces': WHATEVER THE INPUT: true; the input reads as it did. -/
def connPiecesSpec : ChangeSpec := { name := "connPieces", fn := fun _ => fun
  | [d1, d2, d3, d4, d5] => { results := [.lit (.bool true)], args := [d1, d2, d3, d4, d5] }
  | _ => none }
def connPiecesRow : OpenClaim := { program := "ytejgmifipdcneaagreat", sum := "92824275852ac18363cf57c98caf1eb6287fc99b9942f705a87056b08bfca21b", func := "brook/brooklaw20.ConnPieces", spec := "connPieces", unfollowed := true, recurses := true, apart := false }
def ConnPiecesSaid : Prop := connPiecesRow.holds Tryz.pinned (OpenSpec.ofChange connPiecesSpec)

/-- ITS FALSE NEIGHBOUR: 'it returns false'. Refute it at one input. -/
def connPiecesWrong : ChangeSpec := { name := "connPieces", fn := fun _ => fun
  | [d1, d2, d3, d4, d5] => { results := [.lit (.bool false)], args := [d1, d2, d3, d4, d5] }
  | _ => none }
def ConnPiecesWrongFalsely : Prop := connPiecesRow.holds Tryz.pinned (OpenSpec.ofChange connPiecesWrong)

/-- 'brooklaw20.ConnRests': WHATEVER THE INPUT: true; the input reads as it did. -/
def connRestsSpec : ChangeSpec := { name := "connRests", fn := fun _ => fun
  | [d1, d2, d3, d4] => { results := [.lit (.bool true)], args := [d1, d2, d3, d4] }
  | _ => none }
def connRestsRow : OpenClaim := { program := "ytejgmifipdcneaagreat", sum := "92824275852ac18363cf57c98caf1eb6287fc99b9942f705a87056b08bfca21b", func := "brook/brooklaw20.ConnRests", spec := "connRests", unfollowed := true, recurses := true, apart := false }
def ConnRestsSaid : Prop := connRestsRow.holds Tryz.pinned (OpenSpec.ofChange connRestsSpec)

/-- ITS FALSE NEIGHBOUR: 'it returns false'. Refute it at one input. -/
def connRestsWrong : ChangeSpec := { name := "connRests", fn := fun _ => fun
  | [d1, d2, d3, d4] => { results := [.lit (.bool false)], args := [d1, d2, d3, d4] }
  | _ => none }
def ConnRestsWrongFalsely : Prop := connRestsRow.holds Tryz.pinned (OpenSpec.ofChange connRestsWrong)

/- THE SECOND FORM. 'bulk': how many values and letters a reading holds, each counted each time it is reached (what is shared counts as often as it is met; a slice's spare places count too). A statement '..UptoSaid' is the law's where the arguments, and the package variables that the reading takes, are together of bulk at most 1048576: NARROWER than '..Said'. Prove '..Said' where nothing that the law and all that it calls make is longer than what came in: it says more and counts as full. Else prove '..UptoSaid'. A law counts once. -/
mutual
def uptoBulk {H : Type} : DataW H → Nat
  | .lit (.string bytes) => bytes.length + 1
  | .lit _ => 1
  | .nil => 1
  | .ptr d => uptoBulk d + 1
  | .slice elems spare => uptoBulkAll elems + uptoBulkAll spare + 1
  | .agg parts => uptoBulkAll parts + 1
  | .iface _ d => uptoBulk d + 1
  | .map entries => uptoBulkEntries entries + 1
  | .held _ => 1
def uptoBulkAll {H : Type} : List (DataW H) → Nat
  | [] => 0
  | d :: r => uptoBulk d + uptoBulkAll r
def uptoBulkEntries {H : Type} : List (Lit × DataW H) → Nat
  | [] => 0
  | x :: r => uptoBulkEntry x + uptoBulkEntries r
def uptoBulkEntry {H : Type} : Lit × DataW H → Nat
  | (.string bytes, d) => bytes.length + uptoBulk d + 1
  | (_, d) => uptoBulk d + 1
 end
def uptoSmall : (H : Type) → List (DataW H) → Bool := fun _ ds => decide (uptoBulkAll ds ≤ 1048576)
def OpenSpec.upto (s : _root_.Go.ChangeSpec) : _root_.Go.OpenSpec := { _root_.Go.OpenSpec.ofChange s with cond := some uptoSmall }

/-- 'brooklaw20.ConnAll', WHERE WHAT IT READS IS OF BULK AT MOST 1048576: true; the input reads as it did. -/
def connAllUptoRow : OpenClaim := { program := "ytejgmifipdcneaagreat", sum := "92824275852ac18363cf57c98caf1eb6287fc99b9942f705a87056b08bfca21b", func := "brook/brooklaw20.ConnAll", spec := "connAll", unfollowed := true, recurses := true, apart := false, narrowed := true }
def ConnAllUptoSaid : Prop := connAllUptoRow.holds Tryz.pinned (OpenSpec.upto connAllSpec)

/-- 'brooklaw20.ConnPieces', WHERE WHAT IT READS IS OF BULK AT MOST 1048576: true; the input reads as it did. -/
def connPiecesUptoRow : OpenClaim := { program := "ytejgmifipdcneaagreat", sum := "92824275852ac18363cf57c98caf1eb6287fc99b9942f705a87056b08bfca21b", func := "brook/brooklaw20.ConnPieces", spec := "connPieces", unfollowed := true, recurses := true, apart := false, narrowed := true }
def ConnPiecesUptoSaid : Prop := connPiecesUptoRow.holds Tryz.pinned (OpenSpec.upto connPiecesSpec)

/-- 'brooklaw20.ConnRests', WHERE WHAT IT READS IS OF BULK AT MOST 1048576: true; the input reads as it did. -/
def connRestsUptoRow : OpenClaim := { program := "ytejgmifipdcneaagreat", sum := "92824275852ac18363cf57c98caf1eb6287fc99b9942f705a87056b08bfca21b", func := "brook/brooklaw20.ConnRests", spec := "connRests", unfollowed := true, recurses := true, apart := false, narrowed := true }
def ConnRestsUptoSaid : Prop := connRestsUptoRow.holds Tryz.pinned (OpenSpec.upto connRestsSpec)

end Rows
end Go.Proofs.YtejgmifipdcneaaGreat
