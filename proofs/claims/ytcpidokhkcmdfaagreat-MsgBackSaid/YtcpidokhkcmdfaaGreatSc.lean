/- The reader of package ber, told by lists of numbers. Conditions: those of each theorem. -/
import Derived.Test.YtcpidokhkcmdfaaGreatKt
import Derived.Test.YtcpidokhkcmdfaaGreatEq0
import Derived.Test.YtcpidokhkcmdfaaGreatEq1
import Derived.Test.YtcpidokhkcmdfaaGreatEq2
import Derived.Test.YtcpidokhkcmdfaaGreatEq3
import Derived.Test.YtcpidokhkcmdfaaGreatEq4
namespace Go.Proofs.YtcpidokhkcmdfaaGreat.B
open Go Go.Proofs Go.Proofs.YtcpidokhkcmdfaaGreat.I
set_option linter.unusedVariables false
set_option linter.unusedSimpArgs false
section
variable {call : Oracle} {lp : Loops} (hW : Fix Tryz.prog hs call lp)
include hW
def q4 (x : Int × Int × Int × Int) : (Int × Int × Int × Int × Unit) × Unit := ((x.1, x.2.1, x.2.2.1, x.2.2.2, ()), ())
theorem head_round (y : List UInt8) (i t n kk j c : Int) (h : j < kk) (h0 : 0 ≤ j) (h2 : j ≤ 2) (hn : 0 ≤ n) (hn2 : n < 65536) (hsz : 2 + j < y.length) (hc : (bytesOf y).getD (2 + j).toNat 0 = c) (c0 : 0 ≤ c) (c1 : c < 256) :
    ber_head.l21 call lp y i t 2 n kk kk j = ber_head.l21 call lp y i t 2 (n * 256 + c) kk kk (j + 1) := by
  rw [ber_head.l21.eq hW]
  simp only [Bool.cond_decide]
  rw [if_pos h, w64 (x := 2 + j) (by omega) (by omega), bt_by y (by omega) hsz, hc]
  simp only [Option.bind_some]
  rw [shl8 hn (by omega), w64 (x := c) (by omega) (by omega), or8 hn (by omega) c0 c1, w64 (x := j + 1) (by omega) (by omega)]
theorem head_end (y : List UInt8) (i t n kk c0 ql : Int) (hsz : (y.length : Int) = ql + 2) (hi : 0 ≤ i) (hi2 : i + ql ≤ 1073741824) (g0 : 0 ≤ n) (g1 : n < 16777216) (g2 : 1 ≤ kk) (g3 : kk ≤ 3) (g4 : kk ≤ ql) (hc : (bytesOf y).getD 2 0 = c0) :
    ber_head.l21 call lp y i t 2 n kk kk kk = some (q4 (headS2 i t c0 ql n kk)) := by
  rw [ber_head.l21.eq hW]
  simp only [Bool.cond_decide]
  rw [if_neg (by omega), bt_by y (by omega) (by omega)]
  simp only [Option.bind_some]
  rw [show (2 : Int).toNat = 2 from rfl, hc]
  unfold headS2
  have e1 : ((if c0 = 0 then some true else some (decide (n < 128))).bind fun z3 => bif z3 then some true else some (decide (1048576 < n))) = some (decide (c0 = 0 ∨ n < 128 ∨ 1048576 < n)) := by
    by_cases a0 : c0 = 0
    · simp [a0]
    · by_cases a1 : n < 128
      · simp [a0, a1]
      · simp [a0, a1]
  rw [← Option.bind_assoc, e1]
  simp only [Option.bind_some, Bool.cond_decide]
  by_cases a0 : c0 = 0 ∨ n < 128 ∨ 1048576 < n
  · rw [if_pos a0, if_pos a0]; rfl
  · rw [if_neg a0, if_neg a0, hsz, w64 (x := 2 + kk) (by omega) (by omega), w64 (x := ql + 2 - (2 + kk)) (by omega) (by omega)]
    by_cases c : ql - kk < n
    · rw [if_pos (by omega), if_pos c]; rfl
    · rw [if_neg (by omega), if_neg c, w64 (x := i + (2 + kk)) (by omega) (by omega), w64 (x := i + (2 + kk) + n) (by omega) (by omega)]; rfl
theorem head_eq (s : List UInt8) (i : Int) (hs : s.length ≤ 1073741824) : ber_head.f call s i = some (q4 (headS (bytesOf s) i)) := by
  have hl := by_len s
  unfold headS
  rw [ber_head.eq hW]
  simp only [Bool.cond_decide]
  by_cases h0 : i < 0 ∨ ((bytesOf s).length : Int) < i
  · rw [if_pos h0]
    by_cases h1 : i < 0
    · rw [if_pos h1]; rfl
    · have h2 : (s.length : Int) < i := by omega
      rw [if_neg h1, decide_eq_true h2]; rfl
  · have h1 : ¬ i < 0 := by omega
    have h2 : ¬ (s.length : Int) < i := by omega
    rw [if_neg h0, if_neg h1, decide_eq_false h2]
    simp only [Option.bind_some, cond_false]
    rw [subs_all s (by omega) (by omega)]
    simp only [Option.bind_some]
    have hy : bytesOf (s.drop i.toNat) = (bytesOf s).drop i.toNat := by_drop s _
    have hyl : (s.drop i.toNat).length ≤ 1073741824 := by rw [List.length_drop]; omega
    have hi : 0 ≤ i := by omega
    have hLl : (((bytesOf s).drop i.toNat).length : Int) + i = (bytesOf s).length := by rw [List.length_drop]; omega
    have hbd : ∀ x ∈ (bytesOf s).drop i.toNat, 0 ≤ x ∧ x < 256 := fun x hx => by_bd s x (List.mem_of_mem_drop hx)
    revert hy hyl
    generalize s.drop i.toNat = y
    generalize (bytesOf s).drop i.toNat = L at *
    intro hy hyl
    have hsz : y.length = L.length := by rw [← by_len, hy]
    have hnil : y = [] ↔ L = [] := by rw [← List.length_eq_zero_iff, hsz, List.length_eq_zero_iff]
    match L, hLl, hbd, hsz, hnil with
    | [], _, _, hsz, hnil => rw [if_pos (hnil.2 rfl)]; rfl
    | t :: r, hLl, hbd, hsz, hnil =>
      have ht := hbd t (by simp)
      have hl1 : 0 < y.length := by rw [hsz]; simp
      rw [if_neg (by rw [hnil]; simp), bt_by y (by omega) (by omega), hy]
      simp only [Option.bind_some]
      have e0 : (t :: r).getD (0 : Int).toNat 0 = t := by simp
      rw [e0, w64 (x := t) (by omega) (by omega), and31 ht.1 ht.2]
      by_cases h31 : t % 32 = 31
      · rw [if_pos h31]; simp [hd, h31, q4]
      · rw [if_neg h31]
        match r, hLl, hbd, hsz with
        | [], _, _, hsz => rw [if_pos (by rw [hsz]; simp)]; simp [hd, h31, q4]
        | b :: q, hLl, hbd, hsz =>
          have hbb := hbd b (by simp)
          have hil : i + q.length ≤ 1073741824 := by simp only [List.length_cons] at hLl; omega
          have hq : (y.length : Int) = q.length + 2 := by rw [hsz]; simp; omega
          have hq30 : (q.length : Int) ≤ 1073741824 := by omega
          have e1 : (t :: b :: q).getD (1 : Int).toNat 0 = b := by simp
          rw [if_neg (by omega), bt_by y (by omega) (by omega), hy, e1]
          simp only [Option.bind_some]
          rw [hq, w64 (x := b) (by omega) (by omega)]
          have hhd : hd (t :: b :: q) = (if b < 128 then (if (q.length : Int) < b then (0, 0, 0, 6) else (t, 2, b, 0))
            else if b = 128 ∨ 131 < b then (0, 0, 0, 5)
            else if (q.length : Int) < b - 128 then (0, 0, 0, 6)
            else if q.headD 0 = 0 ∨ num (q.take (b - 128).toNat) < 128 ∨ 1048576 < num (q.take (b - 128).toNat) then (0, 0, 0, 5)
            else if (q.length : Int) - (b - 128) < num (q.take (b - 128).toNat) then (0, 0, 0, 6)
            else (t, 2 + (b - 128), num (q.take (b - 128).toNat), 0)) := by simp only [hd]; rw [if_neg h31]
          rw [hhd]
          clear hhd
          by_cases hb128 : b < 128
          · rw [if_neg (by omega), if_pos hb128, w64 (x := (q.length : Int) + 2 - 2) (by omega) (by omega)]
            by_cases hlt : (q.length : Int) < b
            · rw [if_pos (by omega), if_pos hlt]; rfl
            · rw [if_neg (by omega), if_neg hlt, w64 (x := i + 2) (by omega) (by omega), w64 (x := i + 2 + b) (by omega) (by omega)]; rfl
          · rw [if_pos (by omega), if_neg hb128, w64 (x := b - 128) (by omega) (by omega)]
            have key : ∀ n kk : Int, 0 ≤ n → n < 16777216 → 1 ≤ kk → kk ≤ 3 → kk ≤ q.length → ber_head.l21 call lp y i t 2 n kk kk kk = some (q4 (headS2 i t (q.headD 0) q.length n kk)) :=
              fun n kk g0 g1 g2 g3 g4 => head_end hW y i t n kk (q.headD 0) q.length hq hi (by omega) g0 g1 g2 g3 g4 (by rw [hy]; cases q <;> simp)
            have e3 : (if b - 128 < 1 then some true else some (decide (3 < b - 128))) = some (decide (b = 128 ∨ 131 < b)) := by
              by_cases a : b - 128 < 1
              · rw [if_pos a, decide_eq_true (by omega)]
              · rw [if_neg a]
                congr 1
                exact decide_eq_decide.2 (by omega)
            rw [e3]
            simp only [Option.bind_some, Bool.cond_decide]
            by_cases hk : b = 128 ∨ 131 < b
            · rw [if_pos hk, if_pos hk]; rfl
            · rw [if_neg hk, if_neg hk, w64 (x := 2 + (b - 128)) (by omega) (by omega)]
              by_cases hlt : (q.length : Int) < b - 128
              · rw [if_pos (by omega), if_pos hlt]; rfl
              · rw [if_neg (by omega), if_neg hlt]
                have hr : ∀ (n j c : Int), j < b - 128 → 0 ≤ j → 0 ≤ n → n < 65536 → (j.toNat < q.length → q.getD j.toNat 0 = c) → 0 ≤ c → c < 256 → ber_head.l21 call lp y i t 2 n (b - 128) (b - 128) j = ber_head.l21 call lp y i t 2 (n * 256 + c) (b - 128) (b - 128) (j + 1) := by
                  intro n j c g1 g2 g3 g4 g5 g6 g7
                  refine head_round hW y i t n (b - 128) j c g1 g2 (by omega) g3 g4 (by omega) ?_ g6 g7
                  rw [hy, ← g5 (by omega)]
                  have : (2 + j).toNat = j.toNat + 1 + 1 := by omega
                  rw [this]; rfl
                have hfin : ber_head.l21 call lp y i t 2 0 (b - 128) (b - 128) 0 = some (q4 (headS2 i t (q.headD 0) q.length (num (q.take (b - 128).toNat)) (b - 128))) := by
                  have hqb : ∀ j : Nat, 0 ≤ q.getD j 0 ∧ q.getD j 0 < 256 := fun j => getD_bd (fun x hx => hbd x (by simp [hx])) j
                  have h0 := hqb 0
                  have h1 := hqb 1
                  have h2 := hqb 2
                  have r0 := hr 0 0 (q.getD 0 0) (by omega) (by omega) (by omega) (by omega) (fun _ => rfl) h0.1 h0.2
                  rw [show (0 : Int) * 256 + q.getD 0 0 = q.getD 0 0 by omega, show (0 : Int) + 1 = 1 from rfl] at r0
                  rcases (show b - 128 = 1 ∨ b - 128 = 2 ∨ b - 128 = 3 by omega) with k1 | k1 | k1
                  · rw [r0, k1, key _ 1 (by omega) (by omega) (by omega) (by omega) (by omega), num_take1 q (by omega)]
                  · have r1 := hr (q.getD 0 0) 1 (q.getD 1 0) (by omega) (by omega) (by omega) (by omega) (fun _ => rfl) h1.1 h1.2
                    rw [show (1 : Int) + 1 = 2 from rfl] at r1
                    rw [r0, r1, k1, key _ 2 (by omega) (by omega) (by omega) (by omega) (by omega), num_take2 q (by omega)]
                  · have r1 := hr (q.getD 0 0) 1 (q.getD 1 0) (by omega) (by omega) (by omega) (by omega) (fun _ => rfl) h1.1 h1.2
                    have r2 := hr (q.getD 0 0 * 256 + q.getD 1 0) 2 (q.getD 2 0) (by omega) (by omega) (by omega) (by omega) (fun _ => rfl) h2.1 h2.2
                    rw [show (1 : Int) + 1 = 2 from rfl] at r1
                    rw [show (2 : Int) + 1 = 3 from rfl] at r2
                    rw [r0, r1, r2, k1, key _ 3 (by omega) (by omega) (by omega) (by omega) (by omega), num_take3 q (by omega)]
                rw [hfin]
                unfold headS2
                by_cases c1 : q.headD 0 = 0 ∨ num (q.take (b - 128).toNat) < 128 ∨ 1048576 < num (q.take (b - 128).toNat)
                · rw [if_pos c1, if_pos c1]; rfl
                · rw [if_neg c1, if_neg c1]
                  by_cases c2 : (q.length : Int) - (b - 128) < num (q.take (b - 128).toNat)
                  · rw [if_pos c2, if_pos c2]; rfl
                  · rw [if_neg c2, if_neg c2]; rfl
end
end Go.Proofs.YtcpidokhkcmdfaaGreat.B
