/- The head of a tlv as the reference reads it, by lists of numbers. Conditions: those of each theorem. -/
import Derived.Test.YtjlcmahknldjpaaBerA
import Derived.Test.YtjlcmahknldjpaaXBerx4
namespace Go.Proofs.Ytjlcmahknldjpaa.Pure
open Go.RowKit Go.Proofs.Ytjlcmahknldjpaa.XBer Go.Proofs.YtjlcmahknldjpaaV.PrintWords
set_option linter.unusedVariables false
set_option linter.unusedSimpArgs false

/-- where the content begins, how long it would be, an error -/
def hdr : List Int → Int × Int × Int
  | [] => (0, 0, 6)
  | t :: r => if t % 32 = 31 then (0, 0, 5) else
    match r with
    | [] => (0, 0, 6)
    | b :: q =>
      if b < 128 then (2, b, 0)
      else if b = 128 ∨ 131 < b then (0, 0, 5)
      else if (q.length : Int) < b - 128 then (0, 0, 6)
      else if q.headD 0 = 0 ∨ num (q.take (b - 128).toNat) < 128 ∨ 1048576 < num (q.take (b - 128).toNat) then (0, 0, 5)
      else (2 + (b - 128), num (q.take (b - 128).toNat), 0)

theorem hd_hdr (l : List Int) : hd l = if (hdr l).2.2 = 0 then (if (l.length : Int) - (hdr l).1 < (hdr l).2.1 then (0, 0, 0, 6) else (l.headD 0, (hdr l).1, (hdr l).2.1, 0)) else (0, 0, 0, (hdr l).2.2) := by
  match l with
  | [] => simp [hd, hdr]
  | t :: r =>
    by_cases h31 : t % 32 = 31
    · simp [hd, hdr, h31]
    · match r with
      | [] => simp [hd, hdr, h31]
      | b :: q =>
        simp only [hd, hdr]
        rw [if_neg h31, if_neg h31]
        have e : ((t :: b :: q).length : Int) = q.length + 2 := by simp only [List.length_cons]; omega
        rw [e]
        by_cases c1 : b < 128
        · rw [if_pos c1, if_pos c1]
          by_cases c2 : (q.length : Int) < b
          · rw [if_pos c2]; simp only [if_true]; rw [if_pos (by omega)]
          · rw [if_neg c2]; simp only [if_true]; rw [if_neg (by omega)]; rfl
        · rw [if_neg c1, if_neg c1]
          by_cases c2 : b = 128 ∨ 131 < b
          · rw [if_pos c2, if_pos c2]; simp
          · rw [if_neg c2, if_neg c2]
            by_cases c3 : (q.length : Int) < b - 128
            · rw [if_pos c3, if_pos c3]; simp
            · rw [if_neg c3, if_neg c3]
              by_cases c4 : q.headD 0 = 0 ∨ num (q.take (b - 128).toNat) < 128 ∨ 1048576 < num (q.take (b - 128).toNat)
              · rw [if_pos c4, if_pos c4]; simp
              · rw [if_neg c4, if_neg c4]
                by_cases c5 : (q.length : Int) - (b - 128) < num (q.take (b - 128).toNat)
                · rw [if_pos c5]; simp only [if_true]; rw [if_pos (by omega)]
                · rw [if_neg c5]; simp only [if_true]; rw [if_neg (by omega)]; rfl

theorem rhead_round (K : Nat) (s : ByteArray) (i n kk j c : Int) (hi : 0 ≤ i) (hs : s.size ≤ 1073741824) (h : j < kk) (h0 : 0 ≤ j) (h2 : j ≤ 2) (hn : 0 ≤ n) (hn2 : n < 65536) (hsz : i + 2 + j < s.size) (hc : bt s (i + 2 + j) = c) (c0 : 0 ≤ c) (c1 : c < 256) :
    brookref1_head.l0 (K + 1) s i n kk j = brookref1_head.l0 K s i (n * 256 + c) kk (j + 1) := by
  simp only [brookref1_head.l0]
  rw [if_pos h, w64 (x := i + 2) (by omega) (by omega), w64 (x := i + 2 + j) (by omega) (by omega), if_pos (by omega), if_pos hsz, hc, w64 (x := n * 256) (by omega) (by omega), w64 (x := c) (by omega) (by omega), w64 (x := n * 256 + c) (by omega) (by omega), w64 (x := j + 1) (by omega) (by omega)]
theorem rhead_end (K : Nat) (s : ByteArray) (i n kk c0 : Int) (hi : 0 ≤ i) (hs : s.size ≤ 1073741824) (g2 : 1 ≤ kk) (g3 : kk ≤ 3) (g4 : i + 2 + kk ≤ s.size) (hc : bt s (i + 2) = c0) :
    brookref1_head.l0 (K + 1) s i n kk kk = some (if c0 = 0 ∨ n < 128 ∨ 1048576 < n then (0, 0, 5) else (i + 2 + kk, n, 0)) := by
  simp only [brookref1_head.l0]
  rw [if_neg (by omega), w64 (x := i + 2) (by omega) (by omega), if_pos (by omega), if_pos (by omega), hc, w64 (x := i + 2 + kk) (by omega) (by omega)]
  by_cases a0 : c0 = 0
  · rw [if_pos a0, if_pos (.inl a0)]
  · rw [if_neg a0]
    by_cases a1 : n < 128
    · rw [if_pos a1, if_pos (.inr (.inl a1))]
    · rw [if_neg a1]
      by_cases a2 : n > 1048576
      · rw [if_pos a2, if_pos (.inr (.inr a2))]
      · rw [if_neg a2, if_neg (show ¬ (c0 = 0 ∨ n < 128 ∨ 1048576 < n) by omega)]

theorem rhead_eq (s : ByteArray) (i : Int) (hs : s.size ≤ 1073741824) (hi : 0 ≤ i) (hi2 : i ≤ s.size) (k : Nat) (hk : 10 ≤ k) :
    brookref1_head.f k s i = some (if (hdr ((bytesOf s).drop i.toNat)).2.2 = 0 then (i + (hdr ((bytesOf s).drop i.toNat)).1, (hdr ((bytesOf s).drop i.toNat)).2.1, 0) else (0, 0, (hdr ((bytesOf s).drop i.toNat)).2.2)) := by
  obtain ⟨m, rfl⟩ : ∃ m, k = m + 10 := ⟨k - 10, by omega⟩
  have hl := by_len s
  have hLl : (((bytesOf s).drop i.toNat).length : Int) + i = s.size := by rw [List.length_drop]; omega
  have hb : ∀ j : Nat, bt s (i + j) = ((bytesOf s).drop i.toNat).getD j 0 := by
    intro j
    rw [by_bt, List.getD_eq_getElem?_getD, List.getD_eq_getElem?_getD, List.getElem?_drop]
    congr 2
    omega
  have hbd : ∀ x ∈ (bytesOf s).drop i.toNat, 0 ≤ x ∧ x < 256 := fun x hx => by_bd s x (List.mem_of_mem_drop hx)
  generalize (bytesOf s).drop i.toNat = L at *
  unfold brookref1_head.f
  match L, hLl, hbd, hb with
  | [], hLl, _, _ =>
    rw [if_pos (by simp at hLl; omega)]; simp [hdr]
  | t :: r, hLl, hbd, hb =>
    have ht := hbd t (by simp)
    have e0 : bt s i = t := by have := hb 0; simpa using this
    simp only [List.length_cons] at hLl
    rw [if_neg (by omega), if_pos (by omega), if_pos (by omega), e0, and31u ht.1 ht.2]
    by_cases h31 : t % 32 = 31
    · rw [if_pos h31]; simp [hdr, h31]
    · rw [if_neg h31, w64 (x := i + 1) (by omega) (by omega)]
      match r, hLl, hbd, hb with
      | [], hLl, _, _ => rw [if_pos (by simp at hLl; omega)]; simp [hdr, h31]
      | b :: q, hLl, hbd, hb =>
        simp only [List.length_cons] at hLl
        have hbb := hbd b (by simp)
        have e1 : bt s (i + 1) = b := by have := hb 1; simpa using this
        rw [if_neg (by omega), if_pos (by omega), if_pos (by omega), e1, w64 (x := b) (by omega) (by omega)]
        have hhd : hdr (t :: b :: q) = (if b < 128 then (2, b, 0)
            else if b = 128 ∨ 131 < b then (0, 0, 5)
            else if (q.length : Int) < b - 128 then (0, 0, 6)
            else if q.headD 0 = 0 ∨ num (q.take (b - 128).toNat) < 128 ∨ 1048576 < num (q.take (b - 128).toNat) then (0, 0, 5)
            else (2 + (b - 128), num (q.take (b - 128).toNat), 0)) := by simp only [hdr]; rw [if_neg h31]
        rw [hhd]
        clear hhd
        by_cases hb128 : b < 128
        · rw [if_pos hb128, if_pos hb128, w64 (x := i + 2) (by omega) (by omega)]; rfl
        · rw [if_neg hb128, if_neg hb128, w64 (x := b - 128) (by omega) (by omega)]
          by_cases hk : b = 128 ∨ 131 < b
          · rw [if_pos hk]
            by_cases hk1 : b - 128 < 1
            · rw [if_pos hk1]; simp [brookref1_head.j0]
            · rw [if_neg hk1]
              have : (decide (b - 128 > 3)) = true := decide_eq_true (by omega)
              rw [this]; simp [brookref1_head.j0]
          · rw [if_neg hk, if_neg (by omega)]
            have : (decide (b - 128 > 3)) = false := decide_eq_false (by omega)
            rw [this]
            simp only [brookref1_head.j0, Bool.false_eq_true, if_false]
            rw [w64 (x := i + 2) (by omega) (by omega), w64 (x := i + 2 + (b - 128)) (by omega) (by omega)]
            by_cases hlt : (q.length : Int) < b - 128
            · rw [if_pos (by omega), if_pos hlt]; rfl
            · rw [if_neg (by omega), if_neg hlt]
              have hqg : ∀ j : Nat, bt s (i + 2 + j) = q.getD j 0 := by
                intro j
                have := hb (j + 2)
                rw [show i + ((j + 2 : Nat) : Int) = i + 2 + j by omega] at this
                rw [this]; rfl
              have hqb : ∀ j : Nat, 0 ≤ q.getD j 0 ∧ q.getD j 0 < 256 := fun j => getD_bd (fun x hx => hbd x (by simp [hx])) j
              have h0 := hqb 0
              have h1 := hqb 1
              have h2 := hqb 2
              have hg0 := hqg 0
              have hg1 := hqg 1
              have hg2 := hqg 2
              rw [show i + 2 + ((0 : Nat) : Int) = i + 2 by omega] at hg0
              have hh : q.headD 0 = q.getD 0 0 := by cases q <;> rfl
              have key : ∀ n K, brookref1_head.l0 (K + 1) s i n (b - 128) (b - 128) = _ := fun n K => rhead_end K s i n (b - 128) (q.getD 0 0) hi hs (by omega) (by omega) (by omega) hg0
              have hfin : brookref1_head.l0 (m + 9) s i 0 (b - 128) 0 = some (if q.headD 0 = 0 ∨ num (q.take (b - 128).toNat) < 128 ∨ 1048576 < num (q.take (b - 128).toNat) then (0, 0, 5) else (i + 2 + (b - 128), num (q.take (b - 128).toNat), 0)) := by
                rw [hh]
                have r0 := rhead_round (m + 8) s i 0 (b - 128) 0 (q.getD 0 0) hi hs (by omega) (by omega) (by omega) (by omega) (by omega) (by omega) (by rw [show i + 2 + 0 = i + 2 by omega]; exact hg0) h0.1 h0.2
                rw [show (0 : Int) * 256 + q.getD 0 0 = q.getD 0 0 by omega, show (0 : Int) + 1 = 1 from rfl] at r0
                rcases (show b - 128 = 1 ∨ b - 128 = 2 ∨ b - 128 = 3 by omega) with k1 | k1 | k1
                · rw [r0]
                  have := key (q.getD 0 0) (m + 7)
                  rw [k1] at this ⊢
                  rw [this, num_take1 q (by omega)]
                · have r1 := rhead_round (m + 7) s i (q.getD 0 0) (b - 128) 1 (q.getD 1 0) hi hs (by omega) (by omega) (by omega) (by omega) (by omega) (by omega) hg1 h1.1 h1.2
                  rw [show (1 : Int) + 1 = 2 from rfl] at r1
                  rw [r0, r1]
                  have := key (q.getD 0 0 * 256 + q.getD 1 0) (m + 6)
                  rw [k1] at this ⊢
                  rw [this, num_take2 q (by omega)]
                · have r1 := rhead_round (m + 7) s i (q.getD 0 0) (b - 128) 1 (q.getD 1 0) hi hs (by omega) (by omega) (by omega) (by omega) (by omega) (by omega) hg1 h1.1 h1.2
                  rw [show (1 : Int) + 1 = 2 from rfl] at r1
                  have r2 := rhead_round (m + 6) s i (q.getD 0 0 * 256 + q.getD 1 0) (b - 128) 2 (q.getD 2 0) hi hs (by omega) (by omega) (by omega) (by omega) (by omega) (by omega) hg2 h2.1 h2.2
                  rw [show (2 : Int) + 1 = 3 from rfl] at r2
                  rw [r0, r1, r2]
                  have := key ((q.getD 0 0 * 256 + q.getD 1 0) * 256 + q.getD 2 0) (m + 5)
                  rw [k1] at this ⊢
                  rw [this, num_take3 q (by omega)]
              rw [hfin]
              by_cases c1 : q.headD 0 = 0 ∨ num (q.take (b - 128).toNat) < 128 ∨ 1048576 < num (q.take (b - 128).toNat)
              · rw [if_pos c1, if_pos c1]; rfl
              · rw [if_neg c1, if_neg c1]
                simp only [if_true]
                skip
                congr 2
                omega
end Go.Proofs.Ytjlcmahknldjpaa.Pure
