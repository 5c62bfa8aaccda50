/-
  NARROWER THAN 'FOR EVERY INPUT', by the rows' own cells (each row's printed sentence says how): MsgAll: loops.
  DERIVED. THE GIVEN ROWS OF THIS SEAT. 4 by the template 'for every input the law returns true; each argument reads behind the call as it read before'; 0 by the template 'total and deterministic' (their statements: YtcpidokhkcmdfaaGreatTotals.lean).
  GIVEN WITH THE SEED: the statements are not yours to turn. If you find one false, say at which input.
  Laid BY PROGRAM, IN A SANDBOX (cutbox-rows.mjs): the forced cells as the released guide's own fill.sh prints them over the translation 5ca78a47d6696f0f… (all of the seat's roots in one cut). By AI agents, Wed Nov 11 2026. No macro, syntax, notation, axiom, sorry.
-/
import Derived.Test.YtcpidokhkcmdfaaGreatChecked
import GoSem.Claim
import GoSem.ClaimJoined
import GoSem.ClaimMapViews
import Derived.JoinedTies
import Derived.KernelRfl
namespace Go.Proofs.YtcpidokhkcmdfaaGreat
/- THE CELL 'sum', in the pinned program and in every row, IS THE sha256 OF THE DUMP (.gsa) THAT YtcpidokhkcmdfaaGreatProg.lean LOADS. Nothing in Lean hashes anything: it is a label: what it is worth is what the hold of that sum in a sandbox is worth. -/
noncomputable def Tryz.pinned : Pinned := { name := "ytcpidokhkcmdfaagreat", sum := "5ca78a47d6696f0f2c1686c7e3cb7b34e3bd7c43c959355125ebe19fcf341499", checked := Tryz.checked }
namespace Rows
def none {H : Type} : Left H := { results := [], args := [] }

/-- 'brooklaw19.MsgAll': WHATEVER THE INPUT: true; the input reads as it did. -/
def msgAllSpec : ChangeSpec := { name := "msgAll", fn := fun _ => fun
  | [d1, d2, d3] => { results := [.lit (.bool true)], args := [d1, d2, d3] }
  | _ => none }
def msgAllRow : OpenClaim := { program := "ytcpidokhkcmdfaagreat", sum := "5ca78a47d6696f0f2c1686c7e3cb7b34e3bd7c43c959355125ebe19fcf341499", func := "brook/brooklaw19.MsgAll", spec := "msgAll", unfollowed := true, recurses := true, loops := true, apart := false }
def MsgAllSaid : Prop := msgAllRow.holds Tryz.pinned (OpenSpec.ofChange msgAllSpec)

/-- ITS FALSE NEIGHBOUR: 'it returns false'. Refute it at one input. -/
def msgAllWrong : ChangeSpec := { name := "msgAll", fn := fun _ => fun
  | [d1, d2, d3] => { results := [.lit (.bool false)], args := [d1, d2, d3] }
  | _ => none }
def MsgAllWrongFalsely : Prop := msgAllRow.holds Tryz.pinned (OpenSpec.ofChange msgAllWrong)

/-- 'brooklaw19.MsgBack': WHATEVER THE INPUT: true; the input reads as it did. -/
def msgBackSpec : ChangeSpec := { name := "msgBack", fn := fun _ => fun
  | [d1, d2, d3, d4, d5, d6] => { results := [.lit (.bool true)], args := [d1, d2, d3, d4, d5, d6] }
  | _ => none }
def msgBackRow : OpenClaim := { program := "ytcpidokhkcmdfaagreat", sum := "5ca78a47d6696f0f2c1686c7e3cb7b34e3bd7c43c959355125ebe19fcf341499", func := "brook/brooklaw19.MsgBack", spec := "msgBack", unfollowed := true, recurses := true, apart := false }
def MsgBackSaid : Prop := msgBackRow.holds Tryz.pinned (OpenSpec.ofChange msgBackSpec)

/-- ITS FALSE NEIGHBOUR: 'it returns false'. Refute it at one input. -/
def msgBackWrong : ChangeSpec := { name := "msgBack", fn := fun _ => fun
  | [d1, d2, d3, d4, d5, d6] => { results := [.lit (.bool false)], args := [d1, d2, d3, d4, d5, d6] }
  | _ => none }
def MsgBackWrongFalsely : Prop := msgBackRow.holds Tryz.pinned (OpenSpec.ofChange msgBackWrong)

/-- 'brooklaw19.MsgKinds': WHATEVER THE INPUT: true; the input reads as it did. -/
def msgKindsSpec : ChangeSpec := { name := "msgKinds", fn := fun _ => fun
  | [d1, d2, d3] => { results := [.lit (.bool true)], args := [d1, d2, d3] }
  | _ => none }
def msgKindsRow : OpenClaim := { program := "ytcpidokhkcmdfaagreat", sum := "5ca78a47d6696f0f2c1686c7e3cb7b34e3bd7c43c959355125ebe19fcf341499", func := "brook/brooklaw19.MsgKinds", spec := "msgKinds", unfollowed := true, recurses := true, apart := false }
def MsgKindsSaid : Prop := msgKindsRow.holds Tryz.pinned (OpenSpec.ofChange msgKindsSpec)

/-- ITS FALSE NEIGHBOUR: 'it returns false'. Refute it at one input. -/
def msgKindsWrong : ChangeSpec := { name := "msgKinds", fn := fun _ => fun
  | [d1, d2, d3] => { results := [.lit (.bool false)], args := [d1, d2, d3] }
  | _ => none }
def MsgKindsWrongFalsely : Prop := msgKindsRow.holds Tryz.pinned (OpenSpec.ofChange msgKindsWrong)

/-- 'brooklaw19.MsgIds': WHATEVER THE INPUT: true; the input reads as it did. -/
def msgIdsSpec : ChangeSpec := { name := "msgIds", fn := fun _ => fun
  | [d1, d2, d3, d4] => { results := [.lit (.bool true)], args := [d1, d2, d3, d4] }
  | _ => none }
def msgIdsRow : OpenClaim := { program := "ytcpidokhkcmdfaagreat", sum := "5ca78a47d6696f0f2c1686c7e3cb7b34e3bd7c43c959355125ebe19fcf341499", func := "brook/brooklaw19.MsgIds", spec := "msgIds", unfollowed := true, recurses := true, apart := false }
def MsgIdsSaid : Prop := msgIdsRow.holds Tryz.pinned (OpenSpec.ofChange msgIdsSpec)

/-- ITS FALSE NEIGHBOUR: 'it returns false'. Refute it at one input. -/
def msgIdsWrong : ChangeSpec := { name := "msgIds", fn := fun _ => fun
  | [d1, d2, d3, d4] => { results := [.lit (.bool false)], args := [d1, d2, d3, d4] }
  | _ => none }
def MsgIdsWrongFalsely : Prop := msgIdsRow.holds Tryz.pinned (OpenSpec.ofChange msgIdsWrong)

/- THE SECOND FORM. 'bulk': how many values and letters a reading holds, each counted each time it is reached (what is shared counts as often as it is met; a slice's spare places count too). A statement '..UptoSaid' is the law's where the arguments, and the package variables that the reading takes, are together of bulk at most 1048576: NARROWER than '..Said'. Prove '..Said' where nothing that the law and all that it calls make is longer than what came in: it says more and counts as full. Else prove '..UptoSaid'. A law counts once. -/
mutual
def uptoBulk {H : Type} : DataW H → Nat
  | .lit (.string bytes) => bytes.length + 1
  | .lit _ => 1
  | .nil => 1
  | .ptr d => uptoBulk d + 1
  | .slice elems spare => uptoBulkAll elems + uptoBulkAll spare + 1
  | .agg parts => uptoBulkAll parts + 1
  | .iface _ d => uptoBulk d + 1
  | .map entries => uptoBulkEntries entries + 1
  | .held _ => 1
def uptoBulkAll {H : Type} : List (DataW H) → Nat
  | [] => 0
  | d :: r => uptoBulk d + uptoBulkAll r
def uptoBulkEntries {H : Type} : List (Lit × DataW H) → Nat
  | [] => 0
  | x :: r => uptoBulkEntry x + uptoBulkEntries r
def uptoBulkEntry {H : Type} : Lit × DataW H → Nat
  | (.string bytes, d) => bytes.length + uptoBulk d + 1
  | (_, d) => uptoBulk d + 1
 end
def uptoSmall : (H : Type) → List (DataW H) → Bool := fun _ ds => decide (uptoBulkAll ds ≤ 1048576)
def OpenSpec.upto (s : _root_.Go.ChangeSpec) : _root_.Go.OpenSpec := { _root_.Go.OpenSpec.ofChange s with cond := some uptoSmall }

/-- 'brooklaw19.MsgAll', WHERE WHAT IT READS IS OF BULK AT MOST 1048576: true; the input reads as it did. -/
def msgAllUptoRow : OpenClaim := { program := "ytcpidokhkcmdfaagreat", sum := "5ca78a47d6696f0f2c1686c7e3cb7b34e3bd7c43c959355125ebe19fcf341499", func := "brook/brooklaw19.MsgAll", spec := "msgAll", unfollowed := true, recurses := true, loops := true, apart := false, narrowed := true }
def MsgAllUptoSaid : Prop := msgAllUptoRow.holds Tryz.pinned (OpenSpec.upto msgAllSpec)

/-- 'brooklaw19.MsgBack', WHERE WHAT IT READS IS OF BULK AT MOST 1048576: true; the input reads as it did. -/
def msgBackUptoRow : OpenClaim := { program := "ytcpidokhkcmdfaagreat", sum := "5ca78a47d6696f0f2c1686c7e3cb7b34e3bd7c43c959355125ebe19fcf341499", func := "brook/brooklaw19.MsgBack", spec := "msgBack", unfollowed := true, recurses := true, apart := false, narrowed := true }
def MsgBackUptoSaid : Prop := msgBackUptoRow.holds Tryz.pinned (OpenSpec.upto msgBackSpec)

/-- 'brooklaw19.MsgKinds', WHERE WHAT IT READS IS OF BULK AT MOST 1048576: true; the input reads as it did. -/
def msgKindsUptoRow : OpenClaim := { program := "ytcpidokhkcmdfaagreat", sum := "5ca78a47d6696f0f2c1686c7e3cb7b34e3bd7c43c959355125ebe19fcf341499", func := "brook/brooklaw19.MsgKinds", spec := "msgKinds", unfollowed := true, recurses := true, apart := false, narrowed := true }
def MsgKindsUptoSaid : Prop := msgKindsUptoRow.holds Tryz.pinned (OpenSpec.upto msgKindsSpec)

/-- 'brooklaw19.MsgIds', WHERE WHAT IT READS IS OF BULK AT MOST 1048576: true; the input reads as it did. -/
def msgIdsUptoRow : OpenClaim := { program := "ytcpidokhkcmdfaagreat", sum := "5ca78a47d6696f0f2c1686c7e3cb7b34e3bd7c43c959355125ebe19fcf341499", func := "brook/brooklaw19.MsgIds", spec := "msgIds", unfollowed := true, recurses := true, apart := false, narrowed := true }
def MsgIdsUptoSaid : Prop := msgIdsUptoRow.holds Tryz.pinned (OpenSpec.upto msgIdsSpec)

end Rows
end Go.Proofs.YtcpidokhkcmdfaaGreat
