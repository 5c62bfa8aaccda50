/- Rows of laws: what is read of arguments is data; a witness is looked at by computation. Conditions: those of each theorem. -/
import Derived.Test.YtcpidokhkcmdfaaGreatIm3
import Derived.WalkKit
import Derived.ProofKit
import Derived.OpenShut
import Derived.ShutString
import Derived.ChangeOld
import Derived.Below
import Derived.SizedLaws
namespace Go.Proofs.YtcpidokhkcmdfaaGreat.I
open Go Go.ChangeShapes Go.WideShapes Go.ChangeAt Go.RowKit
set_option linter.unusedVariables false
def isAgg (P : Program) (t : TypeId) : Bool := match P.underlying t with
  | some (.struct _) => true
  | _ => false
def vArg : Bool → List D → V
  | true, ds => .agg (ds.map C.d)
  | false, [d] => .c (.d d)
  | false, _ => .u
theorem open_arg {P : Program} {T : List Nat} (hT : T.all (okType P T) = true) {H : Type} {enc : TypeId × Value → H} {w : World} {base base' : Nat} {spare : Nat → Bool} {held : Bool} {φ : Place} {t : TypeId} {v : Value} {d : DataW H} {p : List MemPlace} (ht : memb T t = true)
    (hval : Value.okWide P w .any base' t v) (h : DataW.Trod enc P w base spare held t v d p) : ∃ ds, Ty P t ds ∧ RelV w (Bel w) [] φ (vArg (isAgg P t) ds) v := by
  obtain ⟨m, hm⟩ := h
  obtain ⟨ds, h1, h2⟩ := open_data hT m t _ _ ht hm
  refine ⟨ds, h2, ?_⟩
  have one : ∀ v', isAgg P t = false → v.cells.toList = [v'] → v = v' → RelV w (Bel w) [] φ (vArg (isAgg P t) ds) v := by
    intro v' ha hc hv
    rw [ha]
    subst hv
    rw [hc] at h1
    cases h1 with
    | cons h hr => cases hr; exact data_c h
  have hok := List.all_eq_true.1 hT t ((memb_iff _ _).1 ht)
  unfold okType at hok
  split at hok
  · rename_i hu
    obtain ⟨b, rfl⟩ := okWide_bool hu hval
    exact one _ (by unfold isAgg; rw [hu]) rfl rfl
  · rename_i k hu
    obtain ⟨n, rfl⟩ := okWide_int hu hval
    exact one _ (by unfold isAgg; rw [hu]) rfl rfl
  · rename_i hu
    obtain ⟨s, rfl⟩ := okWide_string hu hval
    exact one _ (by unfold isAgg; rw [hu]) rfl rfl
  · rename_i e hu
    obtain ⟨a, len, cap, rfl⟩ := okWide_slice hu hval
    exact one _ (by unfold isAgg; rw [hu]) rfl rfl
  · rename_i fs hu
    obtain ⟨cs, rfl, _⟩ := okWide_struct hu hval
    rw [show isAgg P t = true by unfold isAgg; rw [hu]]
    exact data_agg h1
  · cases hok
theorem trod_old {P : Program} {H : Type} {enc : TypeId × Value → H} {w : World} {base : Nat} {spare : Nat → Bool} {held : Bool} {t : TypeId} {v : Value} {d : DataW H} {p : List MemPlace} (h : DataW.Trod enc P w base spare held t v d p) : ∀ x ∈ p, x.block < w.heap.size := by
  obtain ⟨m, hm⟩ := h
  exact DataW.trod_lt m _ _ _ hm
/-- A kind's bounds. -/
theorem int_wf {k : IntKind} {n : Int} (h : (Lit.int k n).wf = true) : k.min ≤ n ∧ n ≤ k.max := by
  simpa [Lit.wf, Bool.and_eq_true] using h
end Go.Proofs.YtcpidokhkcmdfaaGreat.I
