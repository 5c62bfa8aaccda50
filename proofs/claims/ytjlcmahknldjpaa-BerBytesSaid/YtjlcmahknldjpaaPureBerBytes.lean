/- BerBytes: what any bytes say at any place, or why they say nothing, is the reference's answer; for every input. Conditions: none. -/
import Derived.Test.YtjlcmahknldjpaaBerE
import Derived.Test.YtjlcmahknldjpaaBerD
import Derived.Test.YtjlcmahknldjpaaXBerx7
namespace Go.Proofs.Ytjlcmahknldjpaa.Pure
open Go.RowKit Go.Proofs.Ytjlcmahknldjpaa.XBer Go.Proofs.YtjlcmahknldjpaaV.PrintWords

theorem BerBytes : brooklaw1_BerBytes.Pure := by
  intro s i hs _
  refine ev_ex (g := fun k => brooklaw1_BerBytes.f k s i) ?_
  unfold brooklaw1_BerBytes.f
  refine ev_ite (fun _ => Ev.bind awake_ev (ev_some rfl)) (fun hle => ?_)
  have hs2 : s.size ≤ 1073741824 := by omega
  have key : ∃ r : Int × ByteArray × List S25 × Int × Int, Ev (fun k => ber_Get.f k s i) r ∧ Ev (fun k => brookref1_GetTlv.f k s i) r ∧ wt ⟨r.1, r.2.1, r.2.2.1⟩ ≤ 1073741824 := by
    by_cases h : i < 0 ∨ (s.size : Int) < i
    · exact ⟨_, Get_out hs2 h, GetTlv_out h, by simp [wt, wts]⟩
    · refine ⟨_, Get_in hs2 (by omega) (by omega), GetTlv_in hs2 (by omega) (by omega), ?_⟩
      unfold res
      have hb : ∀ x ∈ (bytesOf s).drop i.toNat, 0 ≤ x ∧ x < 256 := bd_drop (by_bd s) _
      by_cases c : (parse 12 ((bytesOf s).drop i.toNat)).1 = 0
      · rw [if_pos c]
        have h1 := parse_wt 12 _ hb c
        have h2 := (parse_good 12 _ hb c).2
        rw [List.length_drop, by_len] at h2
        simp only [eta]
        omega
      · rw [if_neg c]; simp [wt, wts]
  obtain ⟨r, h1, h2, h3⟩ := key
  refine Ev.bind h1 (Ev.bind h2 (Ev.bind (same_self ⟨r.1, r.2.1, r.2.2.1⟩ h3) ?_))
  refine ev_ite (fun _ => ?_) (fun c => absurd rfl c)
  refine ev_ite (fun _ => ?_) (fun c => absurd rfl c)
  unfold brooklaw1_Num.f
  refine Ev.bind (ev_some rfl) ?_
  exact ev_ite (fun _ => Ev.bind awake_ev (ev_some rfl)) (fun c => absurd rfl c)
end Go.Proofs.Ytjlcmahknldjpaa.Pure
