/- Numbers as bytes: both packages put and read them alike. Conditions: those of each theorem. -/
import Derived.Test.YtcpidokhkcmdfaaGreatSg
namespace Go.Proofs.YtcpidokhkcmdfaaGreat.B
open Go Go.Proofs Go.Proofs.YtcpidokhkcmdfaaGreat.I
set_option linter.unusedVariables false
set_option linter.unusedSimpArgs false
/-- A number in as few bytes as may be. -/
def intB : Nat → Int → List Int
  | 0, n => [n % 256]
  | k + 1, n => if -128 ≤ n ∧ n ≤ 127 then [n % 256] else intB k (n / 256) ++ [n % 256]
theorem intB_bd : ∀ (k : Nat) (n : Int), ∀ x ∈ intB k n, 0 ≤ x ∧ x < 256
  | 0, n, x, h => by simp only [intB, List.mem_singleton] at h; omega
  | k + 1, n, x, h => by
    simp only [intB] at h
    split at h
    · simp only [List.mem_singleton] at h; omega
    · rcases List.mem_append.1 h with h | h
      · exact intB_bd k _ x h
      · simp only [List.mem_singleton] at h; omega
theorem intB_len : ∀ (k : Nat) (n : Int), 1 ≤ (intB k n).length ∧ (intB k n).length ≤ k + 1
  | 0, n => by simp [intB]
  | k + 1, n => by
    simp only [intB]
    split
    · simp
    · have := intB_len k (n / 256)
      simp only [List.length_append, List.length_cons, List.length_nil]; omega
theorem shr7 (x : Int) : shrv .i64 x 7 = x / 128 := by
  unfold shrv
  have : min (7 : Int).toNat IntKind.i64.bits = 7 := by decide
  rw [this]
  show x.fdiv 128 = x / 128
  rw [Int.fdiv_eq_ediv_of_nonneg _ (by omega)]
theorem set_mid {α : Type} (a : List α) (x v : α) (r : List α) : (a ++ x :: r).set a.length v = a ++ v :: r := by
  induction a with
  | nil => rfl
  | cons b a ih => simp [ih]
theorem rowI_get (l : List Int) (i : Nat) (h : i < l.length) : (rowI l)[i]? = some [D.int .u8 l[i]] := by
  unfold rowI
  rw [List.getElem?_map, List.getElem?_eq_getElem h]; rfl
theorem rowI_set (l : List Int) (i : Nat) (v : Int) : (rowI l).set i [D.int .u8 v] = rowI (l.set i v) := by
  unfold rowI
  rw [List.map_set]
theorem at_eq (xs : List (List D)) {i : Int} (h0 : 0 ≤ i) (h1 : i < xs.length) : at_ xs i = some i.toNat := by unfold at_; rw [if_pos ⟨h0, h1⟩]
theorem wrap64_bd (x : Int) : -9223372036854775808 ≤ IntKind.wrap .i64 x ∧ IntKind.wrap .i64 x ≤ 9223372036854775807 := by rw [IntKind.wrap_i64]; omega
section
variable {call : Oracle} {lp : Loops} (hW : Fix Tryz.prog hs call lp)
include hW
theorem rev_loop : ∀ (k : Nat) (a m b : List Int), m.length ≤ k → a.length = b.length → (a ++ m ++ b).length ≤ 1000000 → slices_Reverse_byte_byte.l1 call lp (a.length : Int) ((a.length : Int) + m.length - 1) (rowI (a ++ m ++ b)) = some ((), (rowI (a ++ m.reverse ++ b), ())) := by
  intro k
  induction k with
  | zero =>
    intro a m b hm hab hl
    obtain rfl : m = [] := List.eq_nil_of_length_eq_zero (by omega)
    rw [slices_Reverse_byte_byte.l1.eq hW]
    simp only [Bool.cond_decide]
    rw [if_neg (by simp only [List.length_nil]; omega)]
    rfl
  | succ k ih =>
    intro a m b hm hab hl
    match m, hm, hl with
    | [], _, _ =>
      rw [slices_Reverse_byte_byte.l1.eq hW]
      simp only [Bool.cond_decide]
      rw [if_neg (by simp only [List.length_nil]; omega)]
      rfl
    | [x], _, _ =>
      rw [slices_Reverse_byte_byte.l1.eq hW]
      simp only [Bool.cond_decide]
      rw [if_neg (by simp only [List.length_cons, List.length_nil]; omega)]
      rfl
    | x :: x2 :: m2, hm, hl =>
      obtain ⟨m', y, hy⟩ : ∃ m' y, x2 :: m2 = m' ++ [y] := ⟨(x2 :: m2).dropLast, (x2 :: m2).getLast (by simp), (List.dropLast_concat_getLast (by simp)).symm⟩
      rw [hy] at hm hl ⊢
      have hml : (x :: (m' ++ [y])).length = m'.length + 2 := by simp
      simp only [List.length_append, hml] at hl
      simp only [hml] at hm ⊢
      rw [slices_Reverse_byte_byte.l1.eq hW]
      simp only [Bool.cond_decide]
      rw [if_pos (by omega)]
      have hlen : (rowI (a ++ x :: (m' ++ [y]) ++ b)).length = a.length + (m'.length + 2) + b.length := by rw [rowI_len]; simp only [List.length_append, hml]
      have hlen2 : (a ++ x :: (m' ++ [y]) ++ b).length = a.length + (m'.length + 2) + b.length := by simp only [List.length_append, hml]
      rw [at_eq _ (i := (a.length : Int) + ((m'.length + 2 : Nat) : Int) - 1) (by omega) (by omega), show ((a.length : Int) + ((m'.length + 2 : Nat) : Int) - 1).toNat = a.length + (m'.length + 1) by omega]
      simp only [Option.bind_some]
      rw [rowI_get _ _ (by omega)]
      have g1 : (a ++ x :: (m' ++ [y]) ++ b)[a.length + (m'.length + 1)]'(by omega) = y := by
        have e : a ++ x :: (m' ++ [y]) ++ b = (a ++ x :: m') ++ y :: b := by simp
        simp only [e]
        rw [List.getElem_append_right (by simp)]
        simp
      have g0 : (a ++ x :: (m' ++ [y]) ++ b)[a.length]'(by omega) = x := by
        simp
      rw [g1]
      simp only [Option.bind_some, sub, List.drop_zero, List.take_succ_cons, List.take_zero, List.map_cons, List.map_nil]
      have dc : ∀ v : Int, decs [Leaf.int .u8] [C.d (D.int .u8 v)] = some (v, ()) := fun v => rfl
      rw [dc]
      simp only [Option.bind_some]
      rw [at_eq _ (i := (a.length : Int)) (by omega) (by omega), show ((a.length : Int)).toNat = a.length by omega]
      simp only [Option.bind_some]
      rw [rowI_get _ _ (by omega), g0]
      simp only [Option.bind_some, List.drop_zero, List.take_succ_cons, List.take_zero, List.map_cons, List.map_nil]
      rw [dc]
      simp only [Option.bind_some]
      have sp : ∀ u v : Int, splice [D.int .u8 u] 0 [D.int .u8 v] = [D.int .u8 v] := fun u v => rfl
      rw [sp, rowI_set]
      have s1 : (a ++ x :: (m' ++ [y]) ++ b).set a.length y = a ++ y :: (m' ++ [y]) ++ b := by
        rw [List.append_assoc, List.cons_append, set_mid]; simp
      rw [s1]
      have hlen3 : (a ++ y :: (m' ++ [y]) ++ b).length = a.length + (m'.length + 2) + b.length := by simp only [List.length_append, List.length_cons, List.length_nil]
      rw [at_eq _ (i := (a.length : Int) + ((m'.length + 2 : Nat) : Int) - 1) (by omega) (by rw [rowI_len, hlen3]; omega), show ((a.length : Int) + ((m'.length + 2 : Nat) : Int) - 1).toNat = a.length + (m'.length + 1) by omega]
      simp only [Option.bind_some]
      rw [rowI_get _ _ (by omega)]
      simp only [Option.bind_some]
      rw [sp, rowI_set]
      have s2 : (a ++ y :: (m' ++ [y]) ++ b).set (a.length + (m'.length + 1)) x = (a ++ [y]) ++ m' ++ (x :: b) := by
        have e : a ++ y :: (m' ++ [y]) ++ b = (a ++ y :: m') ++ y :: b := by simp
        have e2 : a.length + (m'.length + 1) = (a ++ y :: m').length := by simp
        rw [e, e2, set_mid]; simp
      rw [s2, w64 (x := (a.length : Int) + 1) (by omega) (by omega), w64 (x := (a.length : Int) + ((m'.length + 2 : Nat) : Int) - 1 - 1) (by omega) (by omega)]
      have := ih (a ++ [y]) m' (x :: b) (by omega) (by simp; omega) (by simp only [List.length_append, List.length_cons, List.length_nil]; omega)
      have e1 : ((a ++ [y]).length : Int) = (a.length : Int) + 1 := by simp
      rw [e1] at this
      rw [show (a.length : Int) + ((m'.length + 2 : Nat) : Int) - 1 - 1 = (a.length : Int) + 1 + (m'.length : Int) - 1 by omega, this]
      simp
theorem rev_eq (l : List Int) (h : l.length ≤ 1000000) : slices_Reverse_byte_byte.f call (rowI l) = some ((), (rowI l.reverse, ())) := by
  rw [slices_Reverse_byte_byte.eq hW, rowI_len, w64 (by omega) (by omega)]
  have := rev_loop hW l.length [] l [] (Nat.le_refl _) rfl (by simpa using h)
  simp only [List.length_nil, Int.natCast_zero, Int.zero_add, List.nil_append, List.append_nil] at this
  exact this
theorem int_loop : ∀ (k : Nat) (n : Int) (acc : List Int), -128 * 256 ^ k ≤ n → n < 128 * 256 ^ k → acc.length + k ≤ 100 → k ≤ 8 → ber_Int.l3 call lp n (n / 128) (rowI (n % 256 :: acc).reverse) = some (strOfNums (intB k n ++ acc), ()) := by
  intro k
  induction k with
  | zero =>
    intro n acc h0 h1 ha _
    rw [ber_Int.l3.eq hW]
    have e : (bif !(decide (n / 128 = 0)) then some (!(decide (n / 128 = -1))) else some false) = some false := by
      rcases (show n / 128 = 0 ∨ n / 128 = -1 by omega) with h | h <;> simp [h]
    rw [e]
    simp only [Option.bind_some, cond_false]
    rw [rev_eq hW _ (by simp; omega)]
    simp only [Option.bind_some, List.reverse_reverse, rowStr_rowI]
    rfl
  | succ k ih =>
    intro n acc h0 h1 ha hk
    rw [ber_Int.l3.eq hW]
    simp only [intB]
    by_cases c : -128 ≤ n ∧ n ≤ 127
    · have e : (bif !(decide (n / 128 = 0)) then some (!(decide (n / 128 = -1))) else some false) = some false := by
        rcases (show n / 128 = 0 ∨ n / 128 = -1 by omega) with h | h <;> simp [h]
      rw [e, if_pos c]
      simp only [Option.bind_some, cond_false]
      rw [rev_eq hW _ (by simp; omega)]
      simp only [Option.bind_some, List.reverse_reverse, rowStr_rowI]
      rfl
    · have e : (bif !(decide (n / 128 = 0)) then some (!(decide (n / 128 = -1))) else some false) = some true := by
        have g1 : ¬ n / 128 = 0 := by omega
        have g2 : ¬ n / 128 = -1 := by omega
        simp [g1, g2]
      rw [e, if_neg c]
      simp only [Option.bind_some, cond_true, shr8]
      rw [app_one (by simp; omega)]
      simp only [Option.bind_some]
      have hp : (256 : Int) ^ (k + 1) = 256 ^ k * 256 := Int.pow_succ _ _
      rw [hp] at h0 h1
      have := ih (n / 256) (n % 256 :: acc) (by omega) (by omega) (by simp; omega) (by omega)
      rw [show n / 128 / 256 = n / 256 / 128 by omega]
      simp only [List.reverse_cons, List.append_assoc] at this ⊢
      rw [this]
      simp
theorem Int_eq (n : Int) (h0 : -9223372036854775808 ≤ n) (h1 : n ≤ 9223372036854775807) : ber_Int.f call n = some (strOfNums (intB 7 n), ()) := by
  rw [ber_Int.eq hW, shr7, wu8]
  have := int_loop hW 7 n [] (by omega) (by omega) (by simp) (by omega)
  simp only [List.append_nil] at this
  exact this
theorem rint_loop : ∀ (k : Nat) (n : Int) (acc : List Int), -128 * 256 ^ k ≤ n → n < 128 * 256 ^ k → acc.length + k ≤ 100 → k ≤ 8 → brookref1_Int.l2 call lp n (rowI acc) = some (strOfNums (intB k n ++ acc), ()) := by
  have one : ∀ (n : Int) (acc : List Int), acc.length ≤ 200 → app 1 1 [[D.int .u8 (IntKind.wrap .u8 n)]] (rowI acc) = some (rowI (n % 256 :: acc)) := fun n acc h => by
    rw [wu8]; exact app_row (a := [n % 256]) (by simp only [List.length_cons, List.length_nil]; omega)
  have stop : ∀ (n : Int) (acc : List Int), acc.length ≤ 200 → -128 ≤ n → n ≤ 127 → brookref1_Int.l2 call lp n (rowI acc) = some (strOfNums (n % 256 :: acc), ()) := by
    intro n acc ha h0 h1
    rw [brookref1_Int.l2.eq hW, one n acc ha]
    simp only [Option.bind_some, Bool.cond_decide]
    rw [if_pos h0, decide_eq_true h1]
    simp only [Option.bind_some, cond_true, rowStr_rowI]
  intro k
  induction k with
  | zero =>
    intro n acc h0 h1 ha _
    rw [stop n acc (by omega) (by omega) (by omega)]; rfl
  | succ k ih =>
    intro n acc h0 h1 ha hk
    simp only [intB]
    by_cases c : -128 ≤ n ∧ n ≤ 127
    · rw [if_pos c, stop n acc (by omega) c.1 c.2]; rfl
    · rw [if_neg c, brookref1_Int.l2.eq hW, one n acc (by omega)]
      have e : (if -128 ≤ n then some (decide (n ≤ 127)) else some false) = some false := by
        split
        · rw [decide_eq_false (by omega)]
        · rfl
      simp only [Option.bind_some, Bool.cond_decide]
      rw [e]
      simp only [Option.bind_some, cond_false, shr8]
      have hp : (256 : Int) ^ (k + 1) = 256 ^ k * 256 := Int.pow_succ _ _
      rw [hp] at h0 h1
      rw [ih (n / 256) (n % 256 :: acc) (by omega) (by omega) (by simp; omega) (by omega)]
      simp
theorem rInt_eq (n : Int) (h0 : -9223372036854775808 ≤ n) (h1 : n ≤ 9223372036854775807) : brookref1_Int.f call n = some (strOfNums (intB 7 n), ()) := by
  rw [brookref1_Int.eq hW]
  have := rint_loop hW 7 n [] (by omega) (by omega) (by simp) (by omega)
  simp only [List.append_nil] at this
  exact this
end
end Go.Proofs.YtcpidokhkcmdfaaGreat.B
