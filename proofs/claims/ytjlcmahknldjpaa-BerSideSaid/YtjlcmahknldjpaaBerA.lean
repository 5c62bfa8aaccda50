/- What the reader of tlvs (package ber) answers, told by lists of numbers: its head. Conditions: those of each theorem. -/
import Derived.Test.YtjlcmahknldjpaaBase
import Derived.Test.YtjlcmahknldjpaaXBerx3
namespace Go.Proofs.Ytjlcmahknldjpaa.Pure
open Go.RowKit Go.Proofs.Ytjlcmahknldjpaa.XBer Go.Proofs.YtjlcmahknldjpaaV.PrintWords
set_option linter.unusedVariables false
set_option linter.unusedSimpArgs false

/-! the head of a tlv -/
def num (l : List Int) : Int := l.foldl (fun a x => a * 256 + x) 0
/-- tag, where the content begins, how long it is, an error -/
def hd : List Int → Int × Int × Int × Int
  | [] => (0, 0, 0, 6)
  | t :: r => if t % 32 = 31 then (0, 0, 0, 5) else
    match r with
    | [] => (0, 0, 0, 6)
    | b :: q =>
      if b < 128 then (if (q.length : Int) < b then (0, 0, 0, 6) else (t, 2, b, 0))
      else if b = 128 ∨ 131 < b then (0, 0, 0, 5)
      else if (q.length : Int) < b - 128 then (0, 0, 0, 6)
      else if q.headD 0 = 0 ∨ num (q.take (b - 128).toNat) < 128 ∨ 1048576 < num (q.take (b - 128).toNat) then (0, 0, 0, 5)
      else if (q.length : Int) - (b - 128) < num (q.take (b - 128).toNat) then (0, 0, 0, 6)
      else (t, 2 + (b - 128), num (q.take (b - 128).toNat), 0)

theorem drop_by (s : ByteArray) (a : Nat) : bytesOf (s.extract a s.size) = (bytesOf s).drop a := by
  rw [by_extract, ← by_len, List.take_length]

def headS (s : List Int) (i : Int) : Int × Int × Int × Int :=
  if i < 0 ∨ (s.length : Int) < i then (0, 0, 0, 1)
  else if (hd (s.drop i.toNat)).2.2.2 = 0 then ((hd (s.drop i.toNat)).1, i + (hd (s.drop i.toNat)).2.1, i + (hd (s.drop i.toNat)).2.1 + (hd (s.drop i.toNat)).2.2.1, 0)
  else (0, 0, 0, (hd (s.drop i.toNat)).2.2.2)

theorem num_take1 (q : List Int) (h : 1 ≤ q.length) : num (q.take (1 : Int).toNat) = q.getD 0 0 := by
  match q, h with
  | c0 :: q1, _ => simp [num]
theorem num_take2 (q : List Int) (h : 2 ≤ q.length) : num (q.take (2 : Int).toNat) = q.getD 0 0 * 256 + q.getD 1 0 := by
  match q, h with
  | c0 :: c1 :: q1, _ => simp [num]
theorem num_take3 (q : List Int) (h : 3 ≤ q.length) : num (q.take (3 : Int).toNat) = (q.getD 0 0 * 256 + q.getD 1 0) * 256 + q.getD 2 0 := by
  match q, h with
  | c0 :: c1 :: c2 :: q1, _ => simp [num]
/-- what stands behind the bytes of a long length -/
def headS2 (i t c0 ql n kk : Int) : Int × Int × Int × Int :=
  if c0 = 0 ∨ n < 128 ∨ 1048576 < n then (0, 0, 0, 5) else if ql - kk < n then (0, 0, 0, 6) else (t, i + (2 + kk), i + (2 + kk) + n, 0)
theorem head_round (K : Nat) (y : ByteArray) (i t n kk j c : Int) (h : j < kk) (h0 : 0 ≤ j) (h2 : j ≤ 2) (hn : 0 ≤ n) (hn2 : n < 65536) (hsz : 2 + j < y.size) (hc : bt y (2 + j) = c) (c0 : 0 ≤ c) (c1 : c < 256) :
    ber_head.l0 (K + 1) y i t 2 n kk kk j = ber_head.l0 K y i t 2 (n * 256 + c) kk kk (j + 1) := by
  simp only [ber_head.l0]
  rw [if_pos h, w64 (x := 2 + j) (by omega) (by omega), if_pos (by omega), if_pos hsz, hc, w64 (x := n * 256) (by omega) (by omega), w64 (x := c) (by omega) (by omega), or8 hn (by omega) c0 c1, w64 (x := j + 1) (by omega) (by omega)]
theorem head_end (K : Nat) (y : ByteArray) (i t n kk c0 ql : Int) (hsz : (y.size : Int) = ql + 2) (hi : 0 ≤ i) (hi2 : i + ql ≤ 1073741824) (g0 : 0 ≤ n) (g1 : n < 16777216) (g2 : 1 ≤ kk) (g3 : kk ≤ 3) (g4 : kk ≤ ql) (hc : bt y 2 = c0) :
    ber_head.l0 (K + 2) y i t 2 n kk kk kk = some (headS2 i t c0 ql n kk) := by
  have j3 : ∀ b : Bool, ber_head.j3 (K + 1) y i t 2 n kk b = if b = true then some (0, 0, 0, 5) else if ql - kk < n then some (0, 0, 0, 6) else some (t, i + (2 + kk), i + (2 + kk) + n, 0) := by
    intro b
    simp only [ber_head.j3]
    by_cases hb : b = true
    · rw [if_pos hb, if_pos hb]
    · rw [if_neg hb, if_neg hb, hsz, w64 (x := 2 + kk) (by omega) (by omega), w64 (x := ql + 2 - (2 + kk)) (by omega) (by omega)]
      by_cases c : ql - kk < n
      · rw [if_pos (by omega), if_pos c]
      · rw [if_neg (by omega), if_neg c, w64 (x := i + (2 + kk)) (by omega) (by omega), w64 (x := i + (2 + kk) + n) (by omega) (by omega)]
  rw [show K + 2 = (K + 1) + 1 from rfl]
  simp only [ber_head.l0]
  rw [if_neg (by omega), if_pos (by omega), hc]
  unfold headS2
  by_cases a0 : c0 = 0
  · rw [if_pos a0, j3, if_pos rfl, if_pos (.inl a0)]
  · rw [if_neg a0]
    by_cases a1 : n < 128
    · rw [if_pos a1, j3, if_pos rfl, if_pos (.inr (.inl a1))]
    · rw [if_neg a1, j3]
      by_cases a2 : n > 1048576
      · rw [if_pos (decide_eq_true a2), if_pos (.inr (.inr a2))]
      · rw [if_neg (by simpa using a2), if_neg (show ¬ (c0 = 0 ∨ n < 128 ∨ 1048576 < n) by omega)]
        by_cases c : ql - kk < n
        · rw [if_pos c, if_pos c]
        · rw [if_neg c, if_neg c]

theorem head_eq (s : ByteArray) (i : Int) (hs : s.size ≤ 1073741824) (k : Nat) (hk : 10 ≤ k) : ber_head.f k s i = some (headS (bytesOf s) i) := by
  obtain ⟨m, rfl⟩ : ∃ m, k = m + 10 := ⟨k - 10, by omega⟩
  have hl := by_len s
  unfold headS
  by_cases h0 : i < 0 ∨ ((bytesOf s).length : Int) < i
  · rw [if_pos h0]
    unfold ber_head.f
    by_cases h1 : i < 0
    · rw [if_pos h1]
      simp [ber_head.j0]
    · have h2 : i > (s.size : Int) := by omega
      rw [if_neg h1]
      simp [ber_head.j0, h2]
  · have h1 : ¬ i < 0 := by omega
    have h2 : ¬ i > (s.size : Int) := by omega
    rw [if_neg h0]
    unfold ber_head.f
    rw [if_neg h1]
    simp only [ber_head.j0, h2, decide_false, Bool.false_eq_true, if_false]
    rw [if_pos (by omega), if_pos (by omega)]
    simp only [Option.bind_some]
    have hy : bytesOf (s.extract i.toNat s.size) = (bytesOf s).drop i.toNat := drop_by s _
    have hyl : (s.extract i.toNat s.size).size ≤ 1073741824 := by rw [ByteArray.size_extract]; omega
    have hi : 0 ≤ i := by omega
    have hLl : (((bytesOf s).drop i.toNat).length : Int) + i = (bytesOf s).length := by rw [List.length_drop]; omega
    have hbd : ∀ x ∈ (bytesOf s).drop i.toNat, 0 ≤ x ∧ x < 256 := fun x hx => by_bd s x (List.mem_of_mem_drop hx)
    revert hy hyl
    generalize s.extract i.toNat s.size = y
    generalize (bytesOf s).drop i.toNat = L at *
    intro hy hyl
    have hsz : y.size = L.length := by rw [← by_len, hy]
    have hb : ∀ j, bt y j = L.getD j.toNat 0 := fun j => by rw [by_bt, hy]
    have hnil : y.toList = ([] : List UInt8) ↔ L = [] := by rw [toList_nil, hy]
    simp only [hsz, hb]
    match L, hLl, hbd, hsz, hb, hnil with
    | [], _, _, hsz, _, hnil => rw [if_pos (hnil.2 rfl)]; simp [hd]
    | t :: r, hLl, hbd, hsz, hb, hnil =>
      have ht := hbd t (by simp)
      rw [if_neg (by rw [hnil]; simp), if_pos (by simp)]
      have e0 : (t :: r).getD (0 : Int).toNat 0 = t := by simp
      rw [e0, w64 (by omega) (by omega), and31 ht.1 ht.2]
      by_cases h31 : t % 32 = 31
      · rw [if_pos h31]; simp [hd, h31]
      · rw [if_neg h31]
        match r, hLl, hbd, hsz, hb with
        | [], _, _, _, _ => simp [hd, h31]
        | b :: q, hLl, hbd, hsz, hb =>
          have hbb := hbd b (by simp)
          have hil : i + q.length ≤ 1073741824 := by simp only [List.length_cons] at hLl; omega
          have hq : ((t :: b :: q).length : Int) = q.length + 2 := by simp; omega
          have hq30 : (q.length : Int) ≤ 1073741824 := by simp at hsz; omega
          have e1 : (t :: b :: q).getD (1 : Int).toNat 0 = b := by simp
          rw [hq, if_neg (by omega), if_pos (by omega), e1, w64 (x := b) (by omega) (by omega)]
          have hhd : hd (t :: b :: q) = (if b < 128 then (if (q.length : Int) < b then (0, 0, 0, 6) else (t, 2, b, 0))
            else if b = 128 ∨ 131 < b then (0, 0, 0, 5)
            else if (q.length : Int) < b - 128 then (0, 0, 0, 6)
            else if q.headD 0 = 0 ∨ num (q.take (b - 128).toNat) < 128 ∨ 1048576 < num (q.take (b - 128).toNat) then (0, 0, 0, 5)
            else if (q.length : Int) - (b - 128) < num (q.take (b - 128).toNat) then (0, 0, 0, 6)
            else (t, 2 + (b - 128), num (q.take (b - 128).toNat), 0)) := by simp only [hd]; rw [if_neg h31]
          rw [hhd]
          clear hhd
          by_cases hb128 : b < 128
          · rw [if_neg (by omega), if_pos hb128, w64 (by omega) (by omega)]
            by_cases hlt : (q.length : Int) < b
            · rw [if_pos (by omega), if_pos hlt]; rfl
            · rw [if_neg (by omega), if_neg hlt, w64 (x := i + 2) (by omega) (by omega), w64 (x := i + 2 + b) (by omega) (by omega)]; rfl
          · rw [if_pos (by omega), if_neg hb128, w64 (x := b - 128) (by omega) (by omega)]
            have key : ∀ n kk : Int, 0 ≤ n → n < 16777216 → 1 ≤ kk → kk ≤ 3 → kk ≤ q.length → ∀ K, ber_head.l0 (K + 2) y i t 2 n kk kk kk = some (headS2 i t (q.headD 0) q.length n kk) :=
              fun n kk g0 g1 g2 g3 g4 K => head_end K y i t n kk (q.headD 0) q.length (by rw [hsz]; simp only [List.length_cons]; omega) hi (by omega) g0 g1 g2 g3 g4 (by rw [hb]; cases q <;> simp)
            by_cases hk : b = 128 ∨ 131 < b
            · rw [if_pos hk]
              by_cases hk1 : b - 128 < 1
              · rw [if_pos hk1]; simp [ber_head.j1]
              · rw [if_neg hk1]
                have : (decide (b - 128 > 3)) = true := decide_eq_true (by omega)
                rw [this]; simp [ber_head.j1]
            · rw [if_neg hk, if_neg (by omega)]
              have : (decide (b - 128 > 3)) = false := decide_eq_false (by omega)
              rw [this]
              simp only [ber_head.j1, Bool.false_eq_true, if_false]
              rw [w64 (x := 2 + (b - 128)) (by omega) (by omega), hsz]
              by_cases hlt : (q.length : Int) < b - 128
              · rw [if_pos (by simp only [List.length_cons]; omega), if_pos hlt]; rfl
              · rw [if_neg (by simp only [List.length_cons]; omega), if_neg hlt]
                have hr : ∀ (K : Nat) (n j c : Int), j < b - 128 → 0 ≤ j → 0 ≤ n → n < 65536 → (j.toNat < q.length → q.getD j.toNat 0 = c) → 0 ≤ c → c < 256 → ber_head.l0 (K + 1) y i t 2 n (b - 128) (b - 128) j = ber_head.l0 K y i t 2 (n * 256 + c) (b - 128) (b - 128) (j + 1) := by
                  intro K n j c g1 g2 g3 g4 g5 g6 g7
                  refine head_round K y i t n (b - 128) j c g1 g2 (by omega) g3 g4 ?_ ?_ g6 g7
                  · rw [hsz]; simp only [List.length_cons]; omega
                  · rw [hb, ← g5 (by omega)]
                    have : (2 + j).toNat = j.toNat + 1 + 1 := by omega
                    rw [this]; rfl
                have hgoal : ∀ n, num (q.take (b - 128).toNat) = n → 0 ≤ n → n < 16777216 → (∃ K, ber_head.l0 (m + 8) y i t 2 0 (b - 128) (b - 128) 0 = ber_head.l0 (K + 2) y i t 2 n (b - 128) (b - 128) (b - 128)) → ber_head.l0 (m + 8) y i t 2 0 (b - 128) (b - 128) 0 = some (headS2 i t (q.headD 0) q.length (num (q.take (b - 128).toNat)) (b - 128)) := by
                  rintro n rfl g0 g1 ⟨K, hK⟩
                  rw [hK, key _ _ g0 g1 (by omega) (by omega) (by omega)]
                have hfin : ber_head.l0 (m + 8) y i t 2 0 (b - 128) (b - 128) 0 = some (headS2 i t (q.headD 0) q.length (num (q.take (b - 128).toNat)) (b - 128)) := by
                  have hqb : ∀ j : Nat, 0 ≤ q.getD j 0 ∧ q.getD j 0 < 256 := fun j => getD_bd (fun x hx => hbd x (by simp [hx])) j
                  have h0 := hqb 0
                  have h1 := hqb 1
                  have h2 := hqb 2
                  have r0 := hr (m + 7) 0 0 (q.getD 0 0) (by omega) (by omega) (by omega) (by omega) (fun _ => rfl) h0.1 h0.2
                  rw [show (0 : Int) * 256 + q.getD 0 0 = q.getD 0 0 by omega, show (0 : Int) + 1 = 1 from rfl] at r0
                  rcases (show b - 128 = 1 ∨ b - 128 = 2 ∨ b - 128 = 3 by omega) with k1 | k1 | k1
                  · refine hgoal (q.getD 0 0) (by rw [k1]; exact num_take1 q (by omega)) (by omega) (by omega) ⟨m + 5, ?_⟩
                    rw [r0, k1]
                  · have r1 := hr (m + 6) (q.getD 0 0) 1 (q.getD 1 0) (by omega) (by omega) (by omega) (by omega) (fun _ => rfl) h1.1 h1.2
                    refine hgoal (q.getD 0 0 * 256 + q.getD 1 0) (by rw [k1]; exact num_take2 q (by omega)) (by omega) (by omega) ⟨m + 4, ?_⟩
                    rw [r0, r1, k1]; rfl
                  · have r1 := hr (m + 6) (q.getD 0 0) 1 (q.getD 1 0) (by omega) (by omega) (by omega) (by omega) (fun _ => rfl) h1.1 h1.2
                    have r2 := hr (m + 5) (q.getD 0 0 * 256 + q.getD 1 0) 2 (q.getD 2 0) (by omega) (by omega) (by omega) (by omega) (fun _ => rfl) h2.1 h2.2
                    rw [show (1 : Int) + 1 = 2 from rfl] at r1
                    refine hgoal ((q.getD 0 0 * 256 + q.getD 1 0) * 256 + q.getD 2 0) (by rw [k1]; exact num_take3 q (by omega)) (by omega) (by omega) ⟨m + 3, ?_⟩
                    rw [r0, r1, r2, k1]; rfl
                rw [hfin]
                unfold headS2
                by_cases c1 : q.headD 0 = 0 ∨ num (q.take (b - 128).toNat) < 128 ∨ 1048576 < num (q.take (b - 128).toNat)
                · rw [if_pos c1, if_pos c1]; rfl
                · rw [if_neg c1, if_neg c1]
                  by_cases c2 : (q.length : Int) - (b - 128) < num (q.take (b - 128).toNat)
                  · rw [if_pos c2, if_pos c2]; rfl
                  · rw [if_neg c2, if_neg c2]; rfl
end Go.Proofs.Ytjlcmahknldjpaa.Pure
