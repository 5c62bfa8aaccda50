/- BerDeep: a tlv nested so deep is read and put whole up to twelve deep, and neither beyond; for every input. Conditions: none. -/
import Derived.Test.YtjlcmahknldjpaaXBerx10
namespace Go.Proofs.Ytjlcmahknldjpaa.Pure
open Go.RowKit Go.Proofs.Ytjlcmahknldjpaa.XBer Go.Proofs.YtjlcmahknldjpaaV.PrintWords Go.Proofs.YtjlcmahknldjpaaV.PrintLast

theorem deep_all : ∀ n : Fin 16, ∀ b : Bool, brooklaw1_BerDeep.f 100 (n.val : Int) b = some true := by decide +kernel

theorem BerDeep : brooklaw1_BerDeep.Pure := by
  intro a0 a1 h
  have hb : 0 ≤ a0 ∧ a0 < 256 := by
    simp [Lit.wf] at h
    have h1 : IntKind.u8.min = 0 := by decide
    have h2 : IntKind.u8.max = 255 := by decide
    rw [h1, h2] at h
    omega
  refine ⟨100, ?_⟩
  have e1 : Int.tmod (wrap64 a0) 16 = Int.tmod (wrap64 (((a0 % 16).toNat : Nat) : Int)) 16 := by
    have h1 : wrap64 a0 = a0 := by unfold wrap64; omega
    have h2 : wrap64 (((a0 % 16).toNat : Nat) : Int) = a0 % 16 := by unfold wrap64; omega
    rw [h1, h2, Int.tmod_eq_emod_of_nonneg hb.1, Int.tmod_eq_emod_of_nonneg (by omega)]
    omega
  have e : brooklaw1_BerDeep.f 100 a0 a1 = brooklaw1_BerDeep.f 100 (((a0 % 16).toNat : Nat) : Int) a1 := by
    unfold brooklaw1_BerDeep.f
    rw [e1]
  rw [e]
  exact deep_all ⟨(a0 % 16).toNat, by omega⟩ a1

end Go.Proofs.Ytjlcmahknldjpaa.Pure
