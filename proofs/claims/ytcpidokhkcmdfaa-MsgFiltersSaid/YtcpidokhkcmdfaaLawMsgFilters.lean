/- MsgFilters: the row, of the plain law. Conditions: none. -/
import Derived.Test.YtcpidokhkcmdfaaRows
import Derived.Test.YtcpidokhkcmdfaaNc
import Derived.Test.YtcpidokhkcmdfaaTu
import Derived.Test.YtcpidokhkcmdfaaRw
import Derived.WalkKit
import Derived.ProofKit
import Derived.OpenShut
import Derived.ShutString
import Derived.ChangeOld
import Derived.Below
import Derived.SizedLaws
namespace Go.Proofs.Ytcpidokhkcmdfaa.msgFilters
open Go Go.ChangeShapes Go.WideShapes Go.ChangeAt Go.RowKit Go.Proofs.Ytcpidokhkcmdfaa.I Go.Proofs.Ytcpidokhkcmdfaa.B
set_option linter.unusedVariables false
set_option linter.unusedSimpArgs false
set_option maxRecDepth 100000
theorem own : ownKnob Try.prog.godebug = none := by kernel_rfl
theorem laidOut : laidOutB Try.prog = true := by kernel_rfl
theorem progOk : progB Try.prog = true := by kernel_rfl
theorem data : [5, 9, 22, 23].all (okType Try.prog [5, 9, 22, 23]) = true := by kernel_rfl
noncomputable abbrev ora : Oracle := callW Try.prog I.hs
theorem fixed : Fix Try.prog I.hs ora (loopW Try.prog I.hs) := fix_W _ _
theorem awake : brooklaw19_awake.f ora = some (true, ()) := true_of 60 (by kernel_rfl)
theorem lifted (os : Os) (started : os.Started) (H : Type) (enc : TypeId × Value → H) :
    ReturnsInHanded {} Try.checked os 3 .any (Rows.msgFiltersSpec.pre6 enc Try.prog Try.f3 Rows.msgFiltersRow.domain false) (Rows.msgFiltersSpec.post enc Try.prog Try.f3 false true false false) := by
  refine returnsInHanded_of_change_sized (C := Try.checked) own started (by kernel_rfl) Try.func3
    (ChangeSpec.witness6 (enc := enc) (C := Try.checked) false ⟨#[], #[.slice none 0 0, .string ByteArray.empty, .slice none 0 0], []⟩ 8 (by kernel_rfl) (by kernel_rfl) (by kernel_rfl) (by kernel_rfl)) ?_
  intro W base args ds gs before hval0 hW hcnd hsz0 _
  have hval : ∀ (j : Nat) t v, Try.f3.params[j]? = some t → args[j]? = some v → Value.okWide Try.prog W .any base t v := hval0
  have hW' := hW
  obtain ⟨p, q, hA0, hV, rfl, hfz, hnd⟩ := hW
  have hA : DataW.TrodAll enc Try.prog W 0 (fun _ => true) true Try.f3.params.toList args.toList ds p := hA0
  rw [Try.params3] at hA hval
  obtain ⟨v0, vs0, d0, ds0, p0, q0, hargs, rfl, rfl, h0, r0⟩ := trodAll_cons hA
  obtain ⟨v1, vs1, d1, ds1, p1, q1, rfl, rfl, rfl, h1, r1⟩ := trodAll_cons r0
  obtain ⟨v2, vs2, d2, ds2, p2, q2, rfl, rfl, rfl, h2, r2⟩ := trodAll_cons r1
  obtain ⟨rfl, rfl, rfl⟩ := trodAll_nil r2
  obtain rfl : args = #[v0, v1, v2] := by cases args; simp_all
  obtain ⟨rfl, rfl⟩ := trodVars_none hV
  obtain ⟨x0, y0, z0⟩ := open_arg (φ := fun _ => (none, 0)) data (t := 22) (by kernel_rfl) (hval 0 22 v0 rfl rfl) h0
  obtain ⟨m0, rfl, b0, l0⟩ := ty_ints (by kernel_rfl) y0
  obtain ⟨x1, y1, z1⟩ := open_arg (φ := fun _ => (none, 0)) data (t := 9) (by kernel_rfl) (hval 1 9 v1 rfl rfl) h1
  obtain ⟨m1, rfl, l1⟩ := ty_str (by kernel_rfl) y1
  obtain ⟨x2, y2, z2⟩ := open_arg (φ := fun _ => (none, 0)) data (t := 23) (by kernel_rfl) (hval 2 23 v2 rfl rfl) h2
  obtain ⟨m2, rfl⟩ := ty_strs (by kernel_rfl) y2
  have main := MsgFilters_row fixed awake m0 b0 m1 m2
  have run := law_true (prog_ok progOk).1 (prog_ok progOk).2 Try.func3 rfl main (W := W) (vals := [v0, v1, v2]) (.cons z0 (.cons z1 (.cons z2 (.nil))))
  refine run.mono fun e W' ⟨he, bel⟩ => ?_
  subst he
  exact ⟨_, rfl, _, _, _, [], _, [], hW', trodAll_mk1 (shut_bool Try.underlying4 _), (trodAll_cons_mk (Below.trod laidOut (by kernel_rfl) (of_decide_eq_true (by kernel_rfl)) h0 bel (trod_old h0)) (trodAll_cons_mk (Below.trod laidOut (by kernel_rfl) (of_decide_eq_true (by kernel_rfl)) h1 bel (trod_old h1)) (trodAll_cons_mk (Below.trod laidOut (by kernel_rfl) (of_decide_eq_true (by kernel_rfl)) h2 bel (trod_old h2)) trodAll_mk0))), rfl, bel.frame _, fun h => by cases h⟩
theorem over : Rows.msgFiltersRow.holds Try.pinned (OpenSpec.ofChange Rows.msgFiltersSpec) :=
  OpenClaim.holds_of_wide 3 Try.f3 rfl rfl rfl rfl rfl rfl rfl ⟨rfl, rfl, rfl, rfl, rfl⟩ rfl rfl rfl rfl rfl (by kernel_rfl) Try.func3 (by kernel_rfl)
    (of_decide_eq_true (by kernel_rfl)) (by unfold Func.isWrapper; first | (rw [if_pos (by decide +kernel)]; kernel_rfl) | (rw [if_neg (by decide +kernel)]; exact ⟨rfl, rfl⟩))
    (fun os started H enc _ => lifted os started H enc)
theorem proved : Rows.MsgFiltersSaid := over
#print axioms proved
end Go.Proofs.Ytcpidokhkcmdfaa.msgFilters
namespace Go.Proofs.Ytcpidokhkcmdfaa
/-- The row, under a short name, for the claim. -/
theorem msgFilters_holds : Rows.MsgFiltersSaid := msgFilters.proved
end Go.Proofs.Ytcpidokhkcmdfaa
