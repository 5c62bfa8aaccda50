/- Tlvs as bytes, by lists of numbers: what they say, cut short, and what else says the same. Conditions: those of each theorem. -/
import Derived.Test.YtjlcmahknldjpaaBerE
namespace Go.Proofs.Ytjlcmahknldjpaa.Pure
open Go.RowKit Go.Proofs.Ytjlcmahknldjpaa.XBer Go.Proofs.YtjlcmahknldjpaaV.PrintWords
set_option linter.unusedVariables false
set_option linter.unusedSimpArgs false

/-- a length as bytes -/
def lenb (n : Int) : List Int :=
  if n < 128 then [n] else if n < 256 then [129, n] else if n < 65536 then [130, n / 256, n % 256] else [131, n / 65536, n / 256 % 256, n % 256]
theorem lenb_len (n : Int) : (lenb n).length = if n < 128 then 1 else if n < 256 then 2 else if n < 65536 then 3 else 4 := by
  unfold lenb
  split
  · rfl
  · split
    · rfl
    · split <;> rfl
theorem lenb_bd {n : Int} (h0 : 0 ≤ n) (h1 : n ≤ 1048576) : ∀ x ∈ lenb n, 0 ≤ x ∧ x < 256 := by
  intro x hx
  unfold lenb at hx
  split at hx
  · simp at hx; omega
  · split at hx
    · simp at hx; omega
    · split at hx <;> (simp at hx; omega)

theorem lenb_1 {n : Int} (h : n < 128) : lenb n = [n] := by unfold lenb; rw [if_pos h]
theorem lenb_2 {n : Int} (h : ¬ n < 128) (h2 : n < 256) : lenb n = [129, n] := by unfold lenb; rw [if_neg h, if_pos h2]
theorem lenb_3 {n : Int} (h : ¬ n < 256) (h2 : n < 65536) : lenb n = [130, n / 256, n % 256] := by unfold lenb; rw [if_neg (by omega), if_neg h, if_pos h2]
theorem lenb_4 {n : Int} (h : ¬ n < 65536) : lenb n = [131, n / 65536, n / 256 % 256, n % 256] := by unfold lenb; rw [if_neg (by omega), if_neg (by omega), if_neg h]
/-- a head that is whole: what it says -/
theorem hd_mk {t n : Int} (ht : t % 32 ≠ 31) (h0 : 0 ≤ n) (h1 : n ≤ 1048576) (rest : List Int) :
    hd (t :: (lenb n ++ rest)) = if (rest.length : Int) < n then (0, 0, 0, 6) else (t, (1 : Int) + ((lenb n).length : Int), n, 0) := by
  by_cases c1 : n < 128
  · rw [lenb_1 c1]
    simp only [List.cons_append, List.nil_append, hd, if_neg ht, if_pos c1]
    rfl
  · by_cases c2 : n < 256
    · rw [lenb_2 c1 c2]
      simp only [List.cons_append, List.nil_append, hd, if_neg ht]
      rw [if_neg (by omega), if_neg (by omega), if_neg (by simp only [List.length_cons]; omega)]
      have e : num ((n :: rest).take ((129 : Int) - 128).toNat) = n := by simp [num]
      rw [e, if_neg (by simp only [List.headD_cons]; omega)]
      by_cases c : (rest.length : Int) < n
      · rw [if_pos (by simp only [List.length_cons]; omega), if_pos c]
      · rw [if_neg (by simp only [List.length_cons]; omega), if_neg c]; rfl
    · by_cases c3 : n < 65536
      · rw [lenb_3 c2 c3]
        simp only [List.cons_append, List.nil_append, hd, if_neg ht]
        rw [if_neg (by omega), if_neg (by omega), if_neg (by simp only [List.length_cons]; omega)]
        have e : num ((n / 256 :: n % 256 :: rest).take ((130 : Int) - 128).toNat) = n := by simp [num]; omega
        rw [e, if_neg (by simp only [List.headD_cons]; omega)]
        by_cases c : (rest.length : Int) < n
        · rw [if_pos (by simp only [List.length_cons]; omega), if_pos c]
        · rw [if_neg (by simp only [List.length_cons]; omega), if_neg c]; rfl
      · rw [lenb_4 c3]
        simp only [List.cons_append, List.nil_append, hd, if_neg ht]
        rw [if_neg (by omega), if_neg (by omega), if_neg (by simp only [List.length_cons]; omega)]
        have e : num ((n / 65536 :: n / 256 % 256 :: n % 256 :: rest).take ((131 : Int) - 128).toNat) = n := by simp [num]; omega
        rw [e, if_neg (by simp only [List.headD_cons]; omega)]
        by_cases c : (rest.length : Int) < n
        · rw [if_pos (by simp only [List.length_cons]; omega), if_pos c]
        · rw [if_neg (by simp only [List.length_cons]; omega), if_neg c]; rfl

/-- a head that is cut: more is asked for -/
theorem hd_cut {t n : Int} (ht : t % 32 ≠ 31) (h0 : 0 ≤ n) (h1 : n ≤ 1048576) (body : List Int) (hb : (body.length : Int) = n) (cut : Nat) (hc : cut < (t :: (lenb n ++ body)).length) :
    hd ((t :: (lenb n ++ body)).take cut) = (0, 0, 0, 6) := by
  by_cases hl : cut < 1 + (lenb n).length
  · -- within the head
    rw [lenb_len] at hl
    match cut, hl with
    | 0, _ => rfl
    | 1, _ => simp [hd, ht]
    | cut + 2, hl =>
      by_cases c1 : n < 128
      · rw [if_pos c1] at hl; omega
      · rw [if_neg c1] at hl
        unfold lenb
        simp only [if_neg c1]
        by_cases c2 : n < 256
        · rw [if_pos c2] at hl
          obtain rfl : cut = 0 := by omega
          simp [if_pos c2, hd, ht]
        · rw [if_neg c2] at hl
          simp only [if_neg c2]
          by_cases c3 : n < 65536
          · rw [if_pos c3] at hl
            simp only [if_pos c3]
            match cut, hl with
            | 0, _ => simp [hd, ht]
            | 1, _ => simp [hd, ht]
            | cut + 2, hl => omega
          · rw [if_neg c3] at hl
            simp only [if_neg c3]
            match cut, hl with
            | 0, _ => simp [hd, ht]
            | 1, _ => simp [hd, ht]
            | 2, _ => simp [hd, ht]
            | cut + 3, hl => omega
  · have hlt : cut - 1 - (lenb n).length < body.length := by simp only [List.length_cons, List.length_append] at hc; omega
    have e : (t :: (lenb n ++ body)).take cut = t :: (lenb n ++ body.take (cut - 1 - (lenb n).length)) := by
      obtain ⟨c, rfl⟩ : ∃ c, cut = c + 1 := ⟨cut - 1, by omega⟩
      rw [List.take_succ_cons, List.take_append, List.take_of_length_le (by omega)]
      rfl
    rw [e, hd_mk ht h0 h1, if_pos (by rw [List.length_take]; omega)]

/-- whatever is a head says so in one way alone -/
theorem hd_only {l : List Int} (hb : ∀ x ∈ l, 0 ≤ x ∧ x < 256) (h : (hd l).2.2.2 = 0) : l = (hd l).1 :: (lenb (hd l).2.2.1 ++ l.drop (hd l).2.1.toNat) ∧ (hd l).1 % 32 ≠ 31 ∧ (hd l).2.1 = (1 : Int) + ((lenb (hd l).2.2.1).length : Int) := by
  match l, hb, h with
  | [], _, h => simp [hd] at h
  | t :: r, hb, h =>
    have ht := hb t (by simp)
    by_cases h31 : t % 32 = 31
    · simp [hd, h31] at h
    · match r, hb, h with
      | [], _, h => simp [hd, h31] at h
      | b :: q, hb, h =>
        have hbb := hb b (by simp)
        have hqb : ∀ x ∈ q, 0 ≤ x ∧ x < 256 := fun x hx => hb x (by simp [hx])
        simp only [hd] at h ⊢
        rw [if_neg h31] at h ⊢
        by_cases c1 : b < 128
        · rw [if_pos c1] at h ⊢
          by_cases c2 : (q.length : Int) < b
          · rw [if_pos c2] at h; simp at h
          · rw [if_neg c2]
            simp only
            refine ⟨?_, h31, ?_⟩
            · unfold lenb; rw [if_pos c1]; rfl
            · rw [lenb_len, if_pos c1]; rfl
        · rw [if_neg c1] at h ⊢
          by_cases c2 : b = 128 ∨ 131 < b
          · rw [if_pos c2] at h; simp at h
          · rw [if_neg c2] at h ⊢
            by_cases c3 : (q.length : Int) < b - 128
            · rw [if_pos c3] at h; simp at h
            · rw [if_neg c3] at h ⊢
              by_cases c4 : q.headD 0 = 0 ∨ num (q.take (b - 128).toNat) < 128 ∨ 1048576 < num (q.take (b - 128).toNat)
              · rw [if_pos c4] at h; simp at h
              · rw [if_neg c4] at h ⊢
                by_cases c5 : (q.length : Int) - (b - 128) < num (q.take (b - 128).toNat)
                · rw [if_pos c5] at h; simp at h
                · rw [if_neg c5]
                  simp only
                  clear h c5
                  rcases (show b = 129 ∨ b = 130 ∨ b = 131 by omega) with rfl | rfl | rfl
                  · match q, c3, c4, hqb with
                    | [], c3, _, _ => simp at c3
                    | c0 :: q1, _, c4, hqb =>
                      have g0 := hqb c0 (by simp)
                      have e : num ((c0 :: q1).take ((129 : Int) - 128).toNat) = c0 := by simp [num]
                      rw [e] at c4 ⊢
                      simp only [List.headD_cons] at c4
                      refine ⟨?_, h31, ?_⟩
                      · unfold lenb; rw [if_neg (by omega), if_pos (by omega)]; rfl
                      · rw [lenb_len, if_neg (by omega), if_pos (by omega)]; rfl
                  · match q, c3, c4, hqb with
                    | [], c3, _, _ => simp at c3
                    | [c0], c3, _, _ => simp at c3
                    | c0 :: c1 :: q1, _, c4, hqb =>
                      have g0 := hqb c0 (by simp)
                      have g1 := hqb c1 (by simp)
                      have e : num ((c0 :: c1 :: q1).take ((130 : Int) - 128).toNat) = c0 * 256 + c1 := by simp [num]
                      rw [e] at c4 ⊢
                      simp only [List.headD_cons] at c4
                      refine ⟨?_, h31, ?_⟩
                      · unfold lenb; rw [if_neg (by omega), if_neg (by omega), if_pos (by omega)]
                        rw [show (c0 * 256 + c1) / 256 = c0 by omega, show (c0 * 256 + c1) % 256 = c1 by omega]; rfl
                      · rw [lenb_len, if_neg (by omega), if_neg (by omega), if_pos (by omega)]; rfl
                  · match q, c3, c4, hqb with
                    | [], c3, _, _ => simp at c3
                    | [c0], c3, _, _ => simp at c3
                    | [c0, c1], c3, _, _ => simp at c3
                    | c0 :: c1 :: c2 :: q1, _, c4, hqb =>
                      have g0 := hqb c0 (by simp)
                      have g1 := hqb c1 (by simp)
                      have g2 := hqb c2 (by simp)
                      have e : num ((c0 :: c1 :: c2 :: q1).take ((131 : Int) - 128).toNat) = (c0 * 256 + c1) * 256 + c2 := by simp [num]
                      rw [e] at c4 ⊢
                      simp only [List.headD_cons] at c4
                      refine ⟨?_, h31, ?_⟩
                      · unfold lenb; rw [if_neg (by omega), if_neg (by omega), if_neg (by omega)]
                        rw [show ((c0 * 256 + c1) * 256 + c2) / 65536 = c0 by omega, show ((c0 * 256 + c1) * 256 + c2) / 256 % 256 = c1 by omega, show ((c0 * 256 + c1) * 256 + c2) % 256 = c2 by omega]; rfl
                      · rw [lenb_len, if_neg (by omega), if_neg (by omega), if_neg (by omega)]; rfl
end Go.Proofs.Ytjlcmahknldjpaa.Pure
