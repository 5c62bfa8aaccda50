/- Package msg reads tlvs: numbers, texts, entries, filters. Conditions: those of each theorem. -/
import Derived.Test.YtcpidokhkcmdfaaGreatTk
namespace Go.Proofs.YtcpidokhkcmdfaaGreat.B
open Go Go.Proofs Go.Proofs.YtcpidokhkcmdfaaGreat.I
set_option linter.unusedVariables false
set_option linter.unusedSimpArgs false
set_option maxRecDepth 100000
/-! numbers -/
def accN (n : Int) (l : List Int) : Int := l.foldl (fun a x => orv .i64 (shlv .i64 a 8) (IntKind.wrap .i64 x)) n
/-- the number that bytes are -/
def rdI (s : List UInt8) : Int × Bool :=
  if s = [] ∨ 8 < s.length then (0, false)
  else if strOfNums (intB 7 (accN (IntKind.wrap .i64 (IntKind.wrap .i8 ((bytesOf s).getD 0 0))) ((bytesOf s).drop 1))) = s then (accN (IntKind.wrap .i64 (IntKind.wrap .i8 ((bytesOf s).getD 0 0))) ((bytesOf s).drop 1), true) else (0, false)
theorem accN_bd : ∀ (l : List Int) (n : Int), -9223372036854775808 ≤ n ∧ n ≤ 9223372036854775807 → -9223372036854775808 ≤ accN n l ∧ accN n l ≤ 9223372036854775807
  | [], n, h => h
  | x :: r, n, h => accN_bd r _ (wrap64_bd _)
theorem orv8 {x y : Int} (h0 : 0 ≤ x) (h1 : x < 8388608) (h2 : 0 ≤ y) (h3 : y < 256) : orv .i64 (shlv .i64 x 8) (IntKind.wrap .i64 y) = x * 256 + y := by
  rw [shl8 h0 h1, w64 (by omega) (by omega), or8 h0 h1 h2 h3]
/-- what a number of not so many bytes says -/
theorem intB_pos : ∀ (k : Nat) (n : Int), 0 ≤ n → n < 2147483648 → n < 128 * 256 ^ k → ∃ h r, intB k n = h :: r ∧ 0 ≤ h ∧ h < 128 ∧ accN h r = n
  | 0, n, h0, h1, h2 => ⟨n % 256, [], rfl, by omega, by omega, by show n % 256 = n; omega⟩
  | k + 1, n, h0, h1, h2 => by
    simp only [intB]
    by_cases c : -128 ≤ n ∧ n ≤ 127
    · rw [if_pos c]
      exact ⟨n % 256, [], rfl, by omega, by omega, by show n % 256 = n; omega⟩
    · rw [if_neg c]
      have hp : (256 : Int) ^ (k + 1) = 256 ^ k * 256 := Int.pow_succ _ _
      rw [hp] at h2
      obtain ⟨h, r, g1, g2, g3, g4⟩ := intB_pos k (n / 256) (by omega) (by omega) (by omega)
      refine ⟨h, r ++ [n % 256], by rw [g1]; rfl, g2, g3, ?_⟩
      unfold accN at g4 ⊢
      rw [List.foldl_append, g4]
      simp only [List.foldl_cons, List.foldl_nil]
      rw [orv8 (by omega) (by omega) (by omega) (by omega)]
      omega
theorem rdI_int {n : Int} (h0 : 0 ≤ n) (h1 : n < 2147483648) : rdI (strOfNums (intB 7 n)) = (n, true) := by
  obtain ⟨h, r, g1, g2, g3, g4⟩ := intB_pos 7 n h0 h1 (by omega)
  have hl := intB_len 7 n
  have hb : bytesOf (strOfNums (intB 7 n)) = intB 7 n := by_strOf (intB_bd 7 n)
  unfold rdI
  have hne : ¬ (strOfNums (intB 7 n) = [] ∨ 8 < (strOfNums (intB 7 n)).length) := by
    rw [strOf_len]
    rintro (h | h)
    · have : (strOfNums (intB 7 n)).length = 0 := by rw [h]; rfl
      rw [strOf_len] at this; omega
    · omega
  rw [if_neg hne, hb, g1]
  have e : IntKind.wrap .i64 (IntKind.wrap .i8 ((h :: r).getD 0 0)) = h := by
    have : IntKind.wrap .i8 h = h := by
      have h8 : ∀ n : Fin 128, IntKind.wrap .i8 (n.val : Int) = (n.val : Int) := by decide +kernel
      have := h8 ⟨h.toNat, by omega⟩
      simp only [Int.toNat_of_nonneg g2] at this
      exact this
    rw [List.getD_cons_zero, this, w64 (by omega) (by omega)]
  rw [e, List.drop_one, List.tail_cons, g4, ← g1, if_pos rfl]
section
variable {call : Oracle} {lp : Loops} (hW : Fix Tryz.prog hs call lp)
include hW
theorem rd_eq (s : List UInt8) : ber_ReadInt.f call s = some (((rdI s).1, (rdI s).2, ()), ()) := by
  have hl := by_len s
  rw [ber_ReadInt.eq hW]
  simp only [orS, Option.bind_some]
  unfold rdI
  by_cases c : s = [] ∨ 8 < s.length
  · rw [if_pos c]
    have : (decide (s = []) || decide (8 < (s.length : Int))) = true := by
      rcases c with c | c
      · simp [c]
      · simp; right; omega
    rw [this]; rfl
  · rw [if_neg c]
    have hne : s ≠ [] := fun h => c (.inl h)
    have hpos := List.length_pos_iff.2 hne
    have h8 : s.length ≤ 8 := by omega
    have : (decide (s = []) || decide (8 < (s.length : Int))) = false := by simp [hne]; omega
    rw [this]
    simp only [cond_false]
    rw [bt_by s (by omega) (by omega)]
    simp only [Option.bind_some, show (0 : Int).toNat = 0 from rfl]
    have key : ∀ (m j : Nat) (n : Int), s.length - j ≤ m → j ≤ s.length → -9223372036854775808 ≤ n ∧ n ≤ 9223372036854775807 → ber_ReadInt.l5 call lp s n (j : Int) = some (if strOfNums (intB 7 (accN n ((bytesOf s).drop j))) = s then ((accN n ((bytesOf s).drop j), true, ()), ()) else ((0, false, ()), ())) := by
      intro m
      induction m with
      | zero =>
        intro j n h1 h2 h3
        rw [ber_ReadInt.l5.eq hW]
        simp only [Bool.cond_decide, Bool.cond_not]
        rw [if_neg (by omega), List.drop_eq_nil_of_le (by omega), Int_eq hW n h3.1 h3.2]
        simp only [Option.bind_some, accN, List.foldl_nil]
        split <;> rename_i h9 <;> simp only [h9, if_true, if_false]
      | succ m ih =>
        intro j n h1 h2 h3
        by_cases h : j < s.length
        · rw [ber_ReadInt.l5.eq hW]
          simp only [Bool.cond_decide, Bool.cond_not]
          rw [if_pos (by omega), bt_by s (by omega) (by omega)]
          simp only [Option.bind_some, Int.toNat_natCast]
          rw [w64 (x := (j : Int) + 1) (by omega) (by omega), List.drop_eq_getElem_cons (l := bytesOf s) (i := j) (by omega), List.getD_eq_getElem?_getD, List.getElem?_eq_getElem (by omega)]
          exact ih (j + 1) _ (by omega) (by omega) (wrap64_bd _)
        · rw [ber_ReadInt.l5.eq hW]
          simp only [Bool.cond_decide, Bool.cond_not]
          rw [if_neg (by omega), List.drop_eq_nil_of_le (by omega), Int_eq hW n h3.1 h3.2]
          simp only [Option.bind_some, accN, List.foldl_nil]
          split <;> rename_i h9 <;> simp only [h9, if_true, if_false]
    have := key s.length 1 (IntKind.wrap .i64 (IntKind.wrap .i8 ((bytesOf s).getD 0 0))) (by omega) (by omega) (wrap64_bd _)
    rw [show ((1 : Nat) : Int) = 1 from rfl] at this
    rw [this]
    split <;> rfl
theorem rrd_eq (s : List UInt8) : brookref1_ReadInt.f call s = some (((rdI s).1, (rdI s).2, ()), ()) := by
  have hl := by_len s
  rw [brookref1_ReadInt.eq hW]
  simp only [orS, Option.bind_some]
  unfold rdI
  by_cases c : s = [] ∨ 8 < s.length
  · rw [if_pos c]
    have : (decide ((s.length : Int) < 1) || decide (8 < (s.length : Int))) = true := by
      rcases c with c | c
      · simp [c]
      · simp; right; omega
    rw [this]; rfl
  · rw [if_neg c]
    have hne : s ≠ [] := fun h => c (.inl h)
    have hpos := List.length_pos_iff.2 hne
    have h8 : s.length ≤ 8 := by omega
    have : (decide ((s.length : Int) < 1) || decide (8 < (s.length : Int))) = false := by simp; omega
    rw [this]
    simp only [cond_false]
    rw [bt_by s (by omega) (by omega)]
    simp only [Option.bind_some, show (0 : Int).toNat = 0 from rfl]
    have key : ∀ (m j : Nat) (n : Int), s.length - j ≤ m → j ≤ s.length → -9223372036854775808 ≤ n ∧ n ≤ 9223372036854775807 → brookref1_ReadInt.l5 call lp s n (j : Int) (0, false, ()) = some (if strOfNums (intB 7 (accN n ((bytesOf s).drop j))) = s then ((accN n ((bytesOf s).drop j), true, ()), ()) else ((0, false, ()), ())) := by
      intro m
      induction m with
      | zero =>
        intro j n h1 h2 h3
        rw [brookref1_ReadInt.l5.eq hW]
        simp only [Bool.cond_decide, Bool.cond_not]
        rw [if_neg (by omega), List.drop_eq_nil_of_le (by omega), rInt_eq hW n h3.1 h3.2]
        simp only [Option.bind_some, accN, List.foldl_nil]
        split <;> rename_i h9 <;> simp only [h9, if_true, if_false]
      | succ m ih =>
        intro j n h1 h2 h3
        by_cases h : j < s.length
        · rw [brookref1_ReadInt.l5.eq hW]
          simp only [Bool.cond_decide, Bool.cond_not]
          rw [if_pos (by omega), bt_by s (by omega) (by omega)]
          simp only [Option.bind_some, Int.toNat_natCast]
          rw [w64 (x := (j : Int) + 1) (by omega) (by omega), List.drop_eq_getElem_cons (l := bytesOf s) (i := j) (by omega), List.getD_eq_getElem?_getD, List.getElem?_eq_getElem (by omega)]
          exact ih (j + 1) _ (by omega) (by omega) (wrap64_bd _)
        · rw [brookref1_ReadInt.l5.eq hW]
          simp only [Bool.cond_decide, Bool.cond_not]
          rw [if_neg (by omega), List.drop_eq_nil_of_le (by omega), rInt_eq hW n h3.1 h3.2]
          simp only [Option.bind_some, accN, List.foldl_nil]
          split <;> rename_i h9 <;> simp only [h9, if_true, if_false]
    have := key s.length 1 (IntKind.wrap .i64 (IntKind.wrap .i8 ((bytesOf s).getD 0 0))) (by omega) (by omega) (wrap64_bd _)
    rw [show ((1 : Nat) : Int) = 1 from rfl] at this
    rw [this]
    split <;> rfl
end
end Go.Proofs.YtcpidokhkcmdfaaGreat.B
