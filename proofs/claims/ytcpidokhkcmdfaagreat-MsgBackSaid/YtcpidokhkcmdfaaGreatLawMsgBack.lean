/- MsgBack: the row, of the plain law. Conditions: none. -/
import Derived.Test.YtcpidokhkcmdfaaGreatRows
import Derived.Test.YtcpidokhkcmdfaaGreatNf
import Derived.Test.YtcpidokhkcmdfaaGreatCl
import Derived.Test.YtcpidokhkcmdfaaGreatRw
import Derived.WalkKit
import Derived.ProofKit
import Derived.OpenShut
import Derived.ShutString
import Derived.ChangeOld
import Derived.Below
import Derived.SizedLaws
namespace Go.Proofs.YtcpidokhkcmdfaaGreat.msgBack
open Go Go.ChangeShapes Go.WideShapes Go.ChangeAt Go.RowKit Go.Proofs.YtcpidokhkcmdfaaGreat.I Go.Proofs.YtcpidokhkcmdfaaGreat.B
set_option linter.unusedVariables false
set_option linter.unusedSimpArgs false
set_option maxRecDepth 100000
theorem own : ownKnob Tryz.prog.godebug = none := by kernel_rfl
theorem laidOut : laidOutB Tryz.prog = true := by kernel_rfl
theorem progOk : progB Tryz.prog = true := by kernel_rfl
theorem data : [5, 9, 42, 43].all (okType Tryz.prog [5, 9, 42, 43]) = true := by kernel_rfl
noncomputable abbrev ora : Oracle := callW Tryz.prog I.hs
theorem fixed : Fix Tryz.prog I.hs ora (loopW Tryz.prog I.hs) := fix_W _ _
theorem awake : brooklaw19_awake.f ora = some (true, ()) := true_of 60 (by kernel_rfl)
theorem lifted (os : Os) (started : os.Started) (H : Type) (enc : TypeId × Value → H) :
    ReturnsInHanded {} Tryz.checked os 4 .any (Rows.msgBackSpec.pre6 enc Tryz.prog Tryz.f4 Rows.msgBackRow.domain false) (Rows.msgBackSpec.post enc Tryz.prog Tryz.f4 false true false false) := by
  refine returnsInHanded_of_change_sized (C := Tryz.checked) own started (by kernel_rfl) Tryz.func4
    (ChangeSpec.witness6 (enc := enc) (C := Tryz.checked) false ⟨#[], #[.slice none 0 0, .slice none 0 0, .string ByteArray.empty, .int .u16 0, .int .u16 0, .int .u8 0], []⟩ 8 (by kernel_rfl) (by kernel_rfl) (by kernel_rfl) (by kernel_rfl)) ?_
  intro W base args ds gs before hval0 hW hcnd hsz0 _
  have hval : ∀ (j : Nat) t v, Tryz.f4.params[j]? = some t → args[j]? = some v → Value.okWide Tryz.prog W .any base t v := hval0
  have hW' := hW
  obtain ⟨p, q, hA0, hV, rfl, hfz, hnd⟩ := hW
  have hA : DataW.TrodAll enc Tryz.prog W 0 (fun _ => true) true Tryz.f4.params.toList args.toList ds p := hA0
  rw [Tryz.params4] at hA hval
  obtain ⟨v0, vs0, d0, ds0, p0, q0, hargs, rfl, rfl, h0, r0⟩ := trodAll_cons hA
  obtain ⟨v1, vs1, d1, ds1, p1, q1, rfl, rfl, rfl, h1, r1⟩ := trodAll_cons r0
  obtain ⟨v2, vs2, d2, ds2, p2, q2, rfl, rfl, rfl, h2, r2⟩ := trodAll_cons r1
  obtain ⟨v3, vs3, d3, ds3, p3, q3, rfl, rfl, rfl, h3, r3⟩ := trodAll_cons r2
  obtain ⟨v4, vs4, d4, ds4, p4, q4, rfl, rfl, rfl, h4, r4⟩ := trodAll_cons r3
  obtain ⟨v5, vs5, d5, ds5, p5, q5, rfl, rfl, rfl, h5, r5⟩ := trodAll_cons r4
  obtain ⟨rfl, rfl, rfl⟩ := trodAll_nil r5
  obtain rfl : args = #[v0, v1, v2, v3, v4, v5] := by cases args; simp_all
  obtain ⟨rfl, rfl⟩ := trodVars_none hV
  obtain ⟨x0, y0, z0⟩ := open_arg (φ := fun _ => (none, 0)) data (t := 42) (by kernel_rfl) (hval 0 42 v0 rfl rfl) h0
  obtain ⟨m0, rfl, b0, l0⟩ := ty_ints (by kernel_rfl) y0
  obtain ⟨x1, y1, z1⟩ := open_arg (φ := fun _ => (none, 0)) data (t := 42) (by kernel_rfl) (hval 1 42 v1 rfl rfl) h1
  obtain ⟨m1, rfl, b1, l1⟩ := ty_ints (by kernel_rfl) y1
  obtain ⟨x2, y2, z2⟩ := open_arg (φ := fun _ => (none, 0)) data (t := 9) (by kernel_rfl) (hval 2 9 v2 rfl rfl) h2
  obtain ⟨m2, rfl, l2⟩ := ty_str (by kernel_rfl) y2
  obtain ⟨x3, y3, z3⟩ := open_arg (φ := fun _ => (none, 0)) data (t := 43) (by kernel_rfl) (hval 3 43 v3 rfl rfl) h3
  obtain ⟨m3, rfl, w3⟩ := ty_int (k := .u16) (by kernel_rfl) y3
  have w3 := int_wf w3
  obtain ⟨x4, y4, z4⟩ := open_arg (φ := fun _ => (none, 0)) data (t := 43) (by kernel_rfl) (hval 4 43 v4 rfl rfl) h4
  obtain ⟨m4, rfl, w4⟩ := ty_int (k := .u16) (by kernel_rfl) y4
  have w4 := int_wf w4
  obtain ⟨x5, y5, z5⟩ := open_arg (φ := fun _ => (none, 0)) data (t := 5) (by kernel_rfl) (hval 5 5 v5 rfl rfl) h5
  obtain ⟨m5, rfl, w5⟩ := ty_int (k := .u8) (by kernel_rfl) y5
  have w5 := int_wf w5
  have main := MsgBack_row fixed awake facts m0 b0 m1 b1 m2 m3 w3 m4 w4 m5 w5
  have run := law_true (prog_ok progOk).1 (prog_ok progOk).2 Tryz.func4 rfl main (W := W) (vals := [v0, v1, v2, v3, v4, v5]) (.cons z0 (.cons z1 (.cons z2 (.cons z3 (.cons z4 (.cons z5 (.nil)))))))
  refine run.mono fun e W' ⟨he, bel⟩ => ?_
  subst he
  exact ⟨_, rfl, _, _, _, [], _, [], hW', trodAll_mk1 (shut_bool Tryz.underlying4 _), (trodAll_cons_mk (Below.trod laidOut (by kernel_rfl) (of_decide_eq_true (by kernel_rfl)) h0 bel (trod_old h0)) (trodAll_cons_mk (Below.trod laidOut (by kernel_rfl) (of_decide_eq_true (by kernel_rfl)) h1 bel (trod_old h1)) (trodAll_cons_mk (Below.trod laidOut (by kernel_rfl) (of_decide_eq_true (by kernel_rfl)) h2 bel (trod_old h2)) (trodAll_cons_mk (Below.trod laidOut (by kernel_rfl) (of_decide_eq_true (by kernel_rfl)) h3 bel (trod_old h3)) (trodAll_cons_mk (Below.trod laidOut (by kernel_rfl) (of_decide_eq_true (by kernel_rfl)) h4 bel (trod_old h4)) (trodAll_cons_mk (Below.trod laidOut (by kernel_rfl) (of_decide_eq_true (by kernel_rfl)) h5 bel (trod_old h5)) trodAll_mk0)))))), rfl, bel.frame _, fun h => by cases h⟩
theorem over : Rows.msgBackRow.holds Tryz.pinned (OpenSpec.ofChange Rows.msgBackSpec) :=
  OpenClaim.holds_of_wide 4 Tryz.f4 rfl rfl rfl rfl rfl rfl rfl ⟨rfl, rfl, rfl, rfl, rfl⟩ rfl rfl rfl rfl rfl (by kernel_rfl) Tryz.func4 (by kernel_rfl)
    (of_decide_eq_true (by kernel_rfl)) (by unfold Func.isWrapper; first | (rw [if_pos (by decide +kernel)]; kernel_rfl) | (rw [if_neg (by decide +kernel)]; exact ⟨rfl, rfl⟩))
    (fun os started H enc _ => lifted os started H enc)
theorem proved : Rows.MsgBackSaid := over
#print axioms proved
end Go.Proofs.YtcpidokhkcmdfaaGreat.msgBack
namespace Go.Proofs.YtcpidokhkcmdfaaGreat
/-- The row, under a short name, for the claim. -/
theorem msgBack_holds : Rows.MsgBackSaid := msgBack.proved
end Go.Proofs.YtcpidokhkcmdfaaGreat
