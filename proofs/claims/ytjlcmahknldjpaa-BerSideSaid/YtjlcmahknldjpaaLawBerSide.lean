/- BerSide: the row, of the walk and of the pure statement. Conditions: none. -/
import Derived.Test.YtjlcmahknldjpaaRows
import Derived.Test.YtjlcmahknldjpaaXBerx12
import Derived.Test.YtjlcmahknldjpaaPureBerSide
import Derived.Test.YtjlcmahknldjpaaOpens
import Derived.WalkKit
import Derived.ProofKit
import Derived.OpenShut
import Derived.ShutString
import Derived.ChangeOld
import Derived.Below
import Derived.SizedLaws
namespace Go.Proofs.Ytjlcmahknldjpaa.berSide
open Go.ChangeShapes Go.WideShapes Go.ChangeAt Go.RowKit Go.Proofs.Ytjlcmahknldjpaa.Opens Go.Proofs.YtjlcmahknldjpaaV.PrintWords
open Go.ChangeMaps (open_string shut_string)
set_option linter.unusedVariables false
theorem own : ownKnob Try.prog.godebug = none := by kernel_rfl
theorem laidOut : laidOutB Try.prog = true := by kernel_rfl
theorem ints (n : Nat) : Opens Try.prog (n + 1) (Kd.slice 5 (Kd.int .u8)) 35 (fun xs => ∀ x ∈ xs, (Lit.int .u8 x).wf = true) := opens_slice Try.underlying35 (by kernel_rfl) (opens_int Try.underlying5 n)
theorem rows (n : Nat) : Opens Try.prog (n + 1 + 1) (Kd.slice 35 (Kd.slice 5 (Kd.int .u8))) 44 (fun xs => ∀ r ∈ xs, ∀ x ∈ r, (Lit.int .u8 x).wf = true) := opens_slice Try.underlying44 (by kernel_rfl) (ints n)
set_option maxRecDepth 100000 in
theorem lifted (os : Os) (started : os.Started) (H : Type) (enc : TypeId × Value → H) :
    ReturnsInHanded {} Try.checked os 7 .any (Rows.berSideSpec.pre6 enc Try.prog Try.f7 Rows.berSideRow.domain false) (Rows.berSideSpec.post enc Try.prog Try.f7 false true false false) := by
  refine returnsInHanded_of_change_sized (C := Try.checked) own started (by kernel_rfl) Try.func7
    (ChangeSpec.witness6 (enc := enc) (C := Try.checked) false ⟨#[], #[.slice none 0 0, .string ByteArray.empty], []⟩ 8 (by kernel_rfl) (by kernel_rfl) (by kernel_rfl) (by kernel_rfl)) ?_
  intro W base args ds gs before hval0 hW hcnd hsz0 _
  have hval : ∀ (j : Nat) t v, Try.f7.params[j]? = some t → args[j]? = some v → Value.okWide Try.prog W .any base t v := hval0
  have hW' := hW
  obtain ⟨p, q, hA0, hV, rfl, hfz, hnd⟩ := hW
  have hA : DataW.TrodAll enc Try.prog W 0 (fun _ => true) true Try.f7.params.toList args.toList ds p := hA0
  rw [Try.params7] at hA hval
  obtain ⟨v0, vs0, d0, ds0, p0, q0, hargs, rfl, rfl, h0, r0⟩ := trodAll_cons hA
  obtain ⟨v1, vs1, d1, ds1, p1, q1, rfl, rfl, rfl, h1, r1⟩ := trodAll_cons r0
  obtain ⟨rfl, rfl, rfl⟩ := trodAll_nil r1
  obtain rfl : args = #[v0, v1] := by cases args; simp_all
  obtain ⟨rfl, rfl⟩ := trodVars_none hV
  obtain ⟨a0, len0, cap0, rfl⟩ := okWide_slice Try.underlying44 (hval 0 44 v0 rfl rfl)
  have k0 := h0
  have lt0 : ∀ x ∈ p0, x.block < W.heap.size := by obtain ⟨m, hm⟩ := k0; exact DataW.trod_lt m _ _ _ hm
  obtain ⟨z0, ⟨A0, c0, e0, hc0, hr0⟩, w0⟩ : ∃ zs : List (List Int), (Kd.slice 35 (Kd.slice 5 (Kd.int .u8))).K W zs [.slice a0 len0 cap0] ∧ ∀ r ∈ zs, ∀ x ∈ r, (Lit.int .u8 x).wf = true := by
    obtain ⟨fuel, hf⟩ := h0
    exact rows fuel H enc W 0 (fun _ => true) true fuel (by omega) _ _ hf
  injection e0 with e0 _
  injection e0 with e1 e2 e3
  subst e1 e2 e3
  obtain ⟨a1, rfl, rfl, rfl, y1⟩ := open_string Try.underlying9 (hval 1 9 v1 rfl rfl) h1
  clear hA0 hval0 hsz0
  obtain ⟨k, hk⟩ := Pure.BerSide z0 a1 w0
  refine (XBer.brooklaw1_BerSide.calls k a0 cap0 z0 a1 true W hr0 hc0 hk).mono fun e W' ⟨he, bel⟩ => ?_
  subst he
  exact ⟨_, rfl, _, _, _, [], _, [], hW', trodAll_mk1 (shut_bool Try.underlying4 _), (trodAll_cons_mk (Below.trod laidOut (by kernel_rfl) (of_decide_eq_true (by kernel_rfl)) k0 bel lt0) (trodAll_cons_mk (shut_string Try.underlying9 y1) trodAll_mk0)), rfl, bel.frame _, fun h => by cases h⟩
theorem over : Rows.berSideRow.holds Try.pinned (OpenSpec.ofChange Rows.berSideSpec) :=
  OpenClaim.holds_of_wide 7 Try.f7 rfl rfl rfl rfl rfl rfl rfl ⟨rfl, rfl, rfl, rfl, rfl⟩ rfl rfl rfl rfl rfl (by kernel_rfl) Try.func7 (by kernel_rfl)
    (of_decide_eq_true (by kernel_rfl)) (by unfold Func.isWrapper; first | (rw [if_pos (by decide +kernel)]; kernel_rfl) | (rw [if_neg (by decide +kernel)]; exact ⟨rfl, rfl⟩))
    (fun os started H enc _ => lifted os started H enc)
theorem proved : Rows.BerSideSaid := over
#print axioms proved
end Go.Proofs.Ytjlcmahknldjpaa.berSide
namespace Go.Proofs.Ytjlcmahknldjpaa
/-- The row, under a short name, for the claim. -/
theorem berSide_holds : Rows.BerSideSaid := berSide.proved
end Go.Proofs.Ytjlcmahknldjpaa
