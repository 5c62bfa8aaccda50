/- What is so deep and so long at most may be put. Conditions: those of each theorem. -/
import Derived.Test.YtcpidokhkcmdfaaGreatNb
namespace Go.Proofs.YtcpidokhkcmdfaaGreat.B
open Go Go.Proofs Go.Proofs.YtcpidokhkcmdfaaGreat.I
set_option linter.unusedVariables false
set_option linter.unusedSimpArgs false
set_option maxRecDepth 100000
/-- Tags as they should be, so deep at most. -/
def okT : Nat → Tlv → Bool
  | d, ⟨t, s, l⟩ => decide (0 ≤ t) && decide (t ≤ 255) && decide (t % 32 ≠ 31) && (if t / 32 % 2 = 0 then l.isEmpty else s.isEmpty && (match d with
    | 0 => false
    | d + 1 => l.attach.all fun x => okT d x.1))
theorem lens_ok {f : Tlv → Int} : ∀ (l : List Tlv) (n : Int), (∀ x ∈ l, 0 ≤ f x ∧ f x = ((cont x).length : Int)) → 0 ≤ n → n + (encs l).length ≤ 1048576 → 0 ≤ lens f n l
  | [], n, _, h0, h1 => by
    simp only [lens]
    simp [encs] at h1
    rw [if_neg (by omega)]; exact h0
  | x :: r, n, h, h0, h1 => by
    obtain ⟨h2, h3⟩ := h x (by simp)
    have h4 := enc_len x
    rw [← h3] at h4
    simp only [encs, List.length_append] at h1
    have h5 := whole_bd h2
    simp only [lens]
    rw [if_neg (by omega), if_neg (by omega)]
    exact lens_ok r _ (fun y hy => h y (List.mem_cons_of_mem _ hy)) (by omega) (by omega)
theorem encs_mem : ∀ (l : List Tlv) (x : Tlv), x ∈ l → (cont x).length ≤ (encs l).length
  | y :: r, x, h => by
    simp only [encs, List.length_append]
    rcases List.mem_cons.1 h with rfl | h
    · have := enc_len x
      have h2 := (whole_bd (n := ((cont x).length : Int)) (by omega))
      have : (enc x).length ≥ (cont x).length := by rw [enc_eq]; simp only [List.length_cons, List.length_append]; omega
      omega
    · have := encs_mem r x h
      omega
theorem fit_ok : ∀ (d : Nat) (t : Tlv), okT d t = true → (cont t).length ≤ 1048576 → 0 ≤ lenS d t := by
  intro d
  induction d with
  | zero =>
    intro ⟨t, s, l⟩ h hc
    unfold okT at h
    simp only [Bool.and_eq_true, decide_eq_true_eq] at h
    obtain ⟨⟨⟨h0, h1⟩, h2⟩, h3⟩ := h
    show 0 ≤ lenN ⟨t, s, l⟩ none
    unfold lenN
    simp only []
    rw [if_neg (by omega)]
    by_cases c : t / 32 % 2 = 0
    · rw [if_pos c] at h3 ⊢
      have hl : l = [] := List.isEmpty_iff.1 h3
      subst hl
      simp only [cont, encs, List.length_append, by_len, List.length_nil] at hc
      simp only [if_true]
      rw [if_neg (by omega)]; omega
    · rw [if_neg c] at h3; simp at h3
  | succ d ih =>
    intro ⟨t, s, l⟩ h hc
    unfold okT at h
    simp only [Bool.and_eq_true, decide_eq_true_eq] at h
    obtain ⟨⟨⟨h0, h1⟩, h2⟩, h3⟩ := h
    show 0 ≤ lenN ⟨t, s, l⟩ (some (lenS d))
    unfold lenN
    simp only []
    rw [if_neg (by omega)]
    by_cases c : t / 32 % 2 = 0
    · rw [if_pos c] at h3 ⊢
      have hl : l = [] := List.isEmpty_iff.1 h3
      subst hl
      simp only [cont, encs, List.length_append, by_len, List.length_nil] at hc
      simp only [if_true]
      rw [if_neg (by omega)]; omega
    · rw [if_neg c] at h3 ⊢
      simp only [Bool.and_eq_true] at h3
      obtain ⟨h4, h5⟩ := h3
      have hs : s = [] := List.isEmpty_iff.1 h4
      subst hs
      simp only [cont, List.length_append, by_len, List.length_nil] at hc
      rw [if_neg (by simp)]
      refine lens_ok l 0 (fun x hx => ?_) (by omega) (by omega)
      have hx2 := List.all_eq_true.1 h5 ⟨x, hx⟩ (List.mem_attach _ _)
      have := ih x hx2 (by have := encs_mem l x hx; omega)
      exact ⟨this, lenS_len d x this⟩
theorem ok_leaf (d : Nat) (t : Int) (s : List UInt8) (h : (decide (0 ≤ t) && decide (t ≤ 255) && decide (t % 32 ≠ 31) && decide (t / 32 % 2 = 0)) = true) : okT d (leafT t s) = true := by
  simp only [Bool.and_eq_true, decide_eq_true_eq] at h
  unfold okT
  rw [decide_eq_true h.1.1.1, decide_eq_true h.1.1.2, decide_eq_true h.1.2, if_pos h.2]
  rfl
theorem ok_node (d : Nat) (t : Int) (l : List Tlv) (h : (decide (0 ≤ t) && decide (t ≤ 255) && decide (t % 32 ≠ 31) && decide (t / 32 % 2 ≠ 0)) = true) (hl : ∀ x ∈ l, okT d x = true) : okT (d + 1) (nodeT t l) = true := by
  simp only [Bool.and_eq_true, decide_eq_true_eq] at h
  unfold okT
  rw [decide_eq_true h.1.1.1, decide_eq_true h.1.1.2, decide_eq_true h.1.2, if_neg h.2]
  simp only [Bool.true_and, List.isEmpty_nil]
  exact List.all_eq_true.2 fun x _ => hl x.1 x.2
end Go.Proofs.YtcpidokhkcmdfaaGreat.B
