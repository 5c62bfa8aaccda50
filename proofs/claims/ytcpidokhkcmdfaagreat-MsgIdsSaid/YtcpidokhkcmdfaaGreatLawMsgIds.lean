/- MsgIds: the row, of the plain law. Conditions: none. -/
import Derived.Test.YtcpidokhkcmdfaaGreatRows
import Derived.Test.YtcpidokhkcmdfaaGreatNb
import Derived.Test.YtcpidokhkcmdfaaGreatCl
import Derived.Test.YtcpidokhkcmdfaaGreatRw
import Derived.WalkKit
import Derived.ProofKit
import Derived.OpenShut
import Derived.ShutString
import Derived.ChangeOld
import Derived.Below
import Derived.SizedLaws
namespace Go.Proofs.YtcpidokhkcmdfaaGreat.msgIds
open Go Go.ChangeShapes Go.WideShapes Go.ChangeAt Go.RowKit Go.Proofs.YtcpidokhkcmdfaaGreat.I Go.Proofs.YtcpidokhkcmdfaaGreat.B
set_option linter.unusedVariables false
set_option linter.unusedSimpArgs false
set_option maxRecDepth 100000
theorem own : ownKnob Tryz.prog.godebug = none := by kernel_rfl
theorem laidOut : laidOutB Tryz.prog = true := by kernel_rfl
theorem progOk : progB Tryz.prog = true := by kernel_rfl
theorem data : [5, 9, 42, 47].all (okType Tryz.prog [5, 9, 42, 47]) = true := by kernel_rfl
noncomputable abbrev ora : Oracle := callW Tryz.prog I.hs
theorem fixed : Fix Tryz.prog I.hs ora (loopW Tryz.prog I.hs) := fix_W _ _
theorem awake : brooklaw19_awake.f ora = some (true, ()) := true_of 60 (by kernel_rfl)
theorem lifted (os : Os) (started : os.Started) (H : Type) (enc : TypeId × Value → H) :
    ReturnsInHanded {} Tryz.checked os 6 .any (Rows.msgIdsSpec.pre6 enc Tryz.prog Tryz.f6 Rows.msgIdsRow.domain false) (Rows.msgIdsSpec.post enc Tryz.prog Tryz.f6 false true false false) := by
  refine returnsInHanded_of_change_sized (C := Tryz.checked) own started (by kernel_rfl) Tryz.func6
    (ChangeSpec.witness6 (enc := enc) (C := Tryz.checked) false ⟨#[], #[.slice none 0 0, .slice none 0 0, .string ByteArray.empty, .int .u32 0], []⟩ 8 (by kernel_rfl) (by kernel_rfl) (by kernel_rfl) (by kernel_rfl)) ?_
  intro W base args ds gs before hval0 hW hcnd hsz0 _
  have hval : ∀ (j : Nat) t v, Tryz.f6.params[j]? = some t → args[j]? = some v → Value.okWide Tryz.prog W .any base t v := hval0
  have hW' := hW
  obtain ⟨p, q, hA0, hV, rfl, hfz, hnd⟩ := hW
  have hA : DataW.TrodAll enc Tryz.prog W 0 (fun _ => true) true Tryz.f6.params.toList args.toList ds p := hA0
  rw [Tryz.params6] at hA hval
  obtain ⟨v0, vs0, d0, ds0, p0, q0, hargs, rfl, rfl, h0, r0⟩ := trodAll_cons hA
  obtain ⟨v1, vs1, d1, ds1, p1, q1, rfl, rfl, rfl, h1, r1⟩ := trodAll_cons r0
  obtain ⟨v2, vs2, d2, ds2, p2, q2, rfl, rfl, rfl, h2, r2⟩ := trodAll_cons r1
  obtain ⟨v3, vs3, d3, ds3, p3, q3, rfl, rfl, rfl, h3, r3⟩ := trodAll_cons r2
  obtain ⟨rfl, rfl, rfl⟩ := trodAll_nil r3
  obtain rfl : args = #[v0, v1, v2, v3] := by cases args; simp_all
  obtain ⟨rfl, rfl⟩ := trodVars_none hV
  obtain ⟨x0, y0, z0⟩ := open_arg (φ := fun _ => (none, 0)) data (t := 42) (by kernel_rfl) (hval 0 42 v0 rfl rfl) h0
  obtain ⟨m0, rfl, b0, l0⟩ := ty_ints (by kernel_rfl) y0
  obtain ⟨x1, y1, z1⟩ := open_arg (φ := fun _ => (none, 0)) data (t := 42) (by kernel_rfl) (hval 1 42 v1 rfl rfl) h1
  obtain ⟨m1, rfl, b1, l1⟩ := ty_ints (by kernel_rfl) y1
  obtain ⟨x2, y2, z2⟩ := open_arg (φ := fun _ => (none, 0)) data (t := 9) (by kernel_rfl) (hval 2 9 v2 rfl rfl) h2
  obtain ⟨m2, rfl, l2⟩ := ty_str (by kernel_rfl) y2
  obtain ⟨x3, y3, z3⟩ := open_arg (φ := fun _ => (none, 0)) data (t := 47) (by kernel_rfl) (hval 3 47 v3 rfl rfl) h3
  obtain ⟨m3, rfl, w3⟩ := ty_int (k := .u32) (by kernel_rfl) y3
  have w3 := int_wf w3
  have main := MsgIds_row fixed awake facts m0 b0 m1 b1 m2 m3 w3
  have run := law_true (prog_ok progOk).1 (prog_ok progOk).2 Tryz.func6 rfl main (W := W) (vals := [v0, v1, v2, v3]) (.cons z0 (.cons z1 (.cons z2 (.cons z3 (.nil)))))
  refine run.mono fun e W' ⟨he, bel⟩ => ?_
  subst he
  exact ⟨_, rfl, _, _, _, [], _, [], hW', trodAll_mk1 (shut_bool Tryz.underlying4 _), (trodAll_cons_mk (Below.trod laidOut (by kernel_rfl) (of_decide_eq_true (by kernel_rfl)) h0 bel (trod_old h0)) (trodAll_cons_mk (Below.trod laidOut (by kernel_rfl) (of_decide_eq_true (by kernel_rfl)) h1 bel (trod_old h1)) (trodAll_cons_mk (Below.trod laidOut (by kernel_rfl) (of_decide_eq_true (by kernel_rfl)) h2 bel (trod_old h2)) (trodAll_cons_mk (Below.trod laidOut (by kernel_rfl) (of_decide_eq_true (by kernel_rfl)) h3 bel (trod_old h3)) trodAll_mk0)))), rfl, bel.frame _, fun h => by cases h⟩
theorem over : Rows.msgIdsRow.holds Tryz.pinned (OpenSpec.ofChange Rows.msgIdsSpec) :=
  OpenClaim.holds_of_wide 6 Tryz.f6 rfl rfl rfl rfl rfl rfl rfl ⟨rfl, rfl, rfl, rfl, rfl⟩ rfl rfl rfl rfl rfl (by kernel_rfl) Tryz.func6 (by kernel_rfl)
    (of_decide_eq_true (by kernel_rfl)) (by unfold Func.isWrapper; first | (rw [if_pos (by decide +kernel)]; kernel_rfl) | (rw [if_neg (by decide +kernel)]; exact ⟨rfl, rfl⟩))
    (fun os started H enc _ => lifted os started H enc)
theorem proved : Rows.MsgIdsSaid := over
#print axioms proved
end Go.Proofs.YtcpidokhkcmdfaaGreat.msgIds
namespace Go.Proofs.YtcpidokhkcmdfaaGreat
/-- The row, under a short name, for the claim. -/
theorem msgIds_holds : Rows.MsgIdsSaid := msgIds.proved
end Go.Proofs.YtcpidokhkcmdfaaGreat
