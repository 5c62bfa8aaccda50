/- Package ber puts a tlv's bytes; the reference lets be and puts the same. Conditions: those of each theorem. -/
import Derived.Test.YtcpidokhkcmdfaaGreatSf
namespace Go.Proofs.YtcpidokhkcmdfaaGreat.B
open Go Go.Proofs Go.Proofs.YtcpidokhkcmdfaaGreat.I
set_option linter.unusedVariables false
set_option linter.unusedSimpArgs false
theorem app_one' {a : List Int} {n : Int} (h : a.length + 1 ≤ 140737488355328) (h0 : 0 ≤ n) (h1 : n < 256) : app 1 1 (rowI a) [[D.int .u8 (IntKind.wrap .u8 n)]] = some (rowI (a ++ [n])) := by
  rw [app_one h, Int.emod_eq_of_lt h0 h1]
theorem str_one {n : Int} : rowStr [[D.int .u8 (IntKind.wrap .u8 n)]] = some (strOfNums [n % 256]) := by
  rw [wu8]; exact rowStr_rowI [n % 256]
theorem strOf_append (a b : List Int) : strOfNums (a ++ b) = strOfNums a ++ strOfNums b := by simp [strOfNums]
theorem strOf_len (a : List Int) : (strOfNums a).length = a.length := by simp [strOfNums]
section
variable {call : Oracle} {lp : Loops} (hW : Fix Tryz.prog hs call lp)
include hW
theorem put_l1 (c : List Int) (n : Int) (h0 : 0 ≤ n) (hn : n = c.length) (h1 : n ≤ 1048576) : ∀ (m : Nat) (acc : List Int), m ≤ 3 → (acc.length : Int) + m ≤ 1099511627790 →
    ber_put.l14 call lp n ((m : Int) - 1) (rowI c) (rowI acc) = some ((), (rowI (acc ++ (if m = 0 then [] else if m = 1 then [n % 256] else if m = 2 then [n / 256 % 256, n % 256] else [n / 65536 % 256, n / 256 % 256, n % 256]) ++ c), ())) := by
  intro m
  induction m with
  | zero =>
    intro acc _ ha
    rw [ber_put.l14.eq hW]
    simp only [Bool.cond_decide]
    rw [if_neg (by omega), app_row (by omega)]
    simp
  | succ m ih =>
    intro acc hm ha
    rw [ber_put.l14.eq hW]
    simp only [Bool.cond_decide]
    rw [show ((m + 1 : Nat) : Int) - 1 = (m : Int) by omega]
    rw [if_pos (by omega), if_pos (by rw [w64 (by omega) (by omega)]; omega)]
    simp only [Option.bind_some]
    rw [app_one (by omega)]
    simp only [Option.bind_some]
    rw [w64 (x := (m : Int) - 1) (by omega) (by omega), ih _ (by omega) (by simp only [List.length_append, List.length_cons, List.length_nil]; omega), shr_8 n m (by omega)]
    rcases (show m = 0 ∨ m = 1 ∨ m = 2 by omega) with rfl | rfl | rfl
    · simp
    · simp
    · simp
theorem put_end (acc c : List Int) (l : List Tlv) (t : Tlv) (j : Int) (hj : j = l.length) (h1 : (c.length : Int) ≤ 1048576) (ha : (acc.length : Int) ≤ 1099511627776) :
    ber_put.l3 call lp (dTs l) (l.length : Int) j (tup t) (rowI c) (rowI acc) = some ((), (rowI (acc ++ (t.f0 % 256) :: (lenb (c.length : Int) ++ c)), ())) := by
  rw [ber_put.l3.eq hW]
  simp only [Bool.cond_decide]
  rw [if_neg (by omega), app_one (by omega)]
  simp only [Option.bind_some, rowI_len]
  by_cases c1 : (c.length : Int) < 128
  · rw [if_pos c1, app_one' (by simp only [List.length_append, List.length_cons, List.length_nil]; omega) (by omega) (by omega)]
    simp only [Option.bind_some]
    rw [app_row (by simp only [List.length_append, List.length_cons, List.length_nil]; omega), lenb_1 c1]
    simp
  · rw [if_neg c1, size_eq hW _ (by omega) (by omega)]
    simp only [Option.bind_some]
    by_cases c2 : (c.length : Int) < 256
    · rw [if_pos c2, w64 (x := 128 + 1) (by omega) (by omega), w64 (x := 1 - 1) (by omega) (by omega), app_one' (by simp only [List.length_append, List.length_cons, List.length_nil]; omega) (by omega) (by omega)]
      simp only [Option.bind_some]
      have := put_l1 hW c (c.length : Int) (by omega) rfl h1 1 (acc ++ [t.f0 % 256] ++ [128 + 1]) (by omega) (by simp only [List.length_append, List.length_cons, List.length_nil]; omega)
      rw [show ((1 : Nat) : Int) - 1 = 1 - 1 from rfl] at this
      rw [this, lenb_2 c1 c2, Int.emod_eq_of_lt (a := (c.length : Int)) (by omega) (by omega)]
      simp
    · rw [if_neg c2]
      by_cases c3 : (c.length : Int) < 65536
      · rw [if_pos c3, w64 (x := 128 + 2) (by omega) (by omega), w64 (x := 2 - 1) (by omega) (by omega), app_one' (by simp only [List.length_append, List.length_cons, List.length_nil]; omega) (by omega) (by omega)]
        simp only [Option.bind_some]
        have := put_l1 hW c (c.length : Int) (by omega) rfl h1 2 (acc ++ [t.f0 % 256] ++ [128 + 2]) (by omega) (by simp only [List.length_append, List.length_cons, List.length_nil]; omega)
        rw [show ((2 : Nat) : Int) - 1 = 2 - 1 from rfl] at this
        rw [this, lenb_3 c2 c3, Int.emod_eq_of_lt (a := (c.length : Int) / 256) (by omega) (by omega)]
        simp
      · rw [if_neg c3, w64 (x := 128 + 3) (by omega) (by omega), w64 (x := 3 - 1) (by omega) (by omega), app_one' (by simp only [List.length_append, List.length_cons, List.length_nil]; omega) (by omega) (by omega)]
        simp only [Option.bind_some]
        have := put_l1 hW c (c.length : Int) (by omega) rfl h1 3 (acc ++ [t.f0 % 256] ++ [128 + 3]) (by omega) (by simp only [List.length_append, List.length_cons, List.length_nil]; omega)
        rw [show ((3 : Nat) : Int) - 1 = 3 - 1 from rfl] at this
        rw [this, lenb_4 c3, Int.emod_eq_of_lt (a := (c.length : Int) / 65536) (by omega) (by omega)]
        simp
theorem put_loop (l : List Tlv) (ih : ∀ x ∈ l, ∀ acc : List Int, (acc.length : Int) ≤ 1099511627776 → ber_put.f call (tup x) (rowI acc) = some ((), (rowI (acc ++ enc x), ()))) (acc : List Int) (ha : (acc.length : Int) ≤ 1099511627776) (t : Tlv) (hl : l.length ≤ 1073741824) :
    ∀ (m j : Nat) (c : List Int), l.length - j ≤ m → j ≤ l.length → ((c ++ encs (l.drop j)).length : Int) ≤ 1048576 → ber_put.l3 call lp (dTs l) (l.length : Int) (j : Int) (tup t) (rowI c) (rowI acc) = some ((), (rowI (acc ++ (t.f0 % 256) :: (lenb ((c ++ encs (l.drop j)).length : Int) ++ (c ++ encs (l.drop j)))), ())) := by
  intro m
  induction m with
  | zero =>
    intro j c hj hj2 hc
    rw [List.drop_eq_nil_of_le (by omega)] at hc ⊢
    simp only [encs, List.append_nil] at hc ⊢
    exact put_end hW acc c l t j (by omega) hc ha
  | succ m ihm =>
    intro j c hj hj2 hc
    by_cases hlt : j < l.length
    · rw [List.drop_eq_getElem_cons hlt] at hc ⊢
      simp only [encs, ← List.append_assoc] at hc ⊢
      have := ihm (j + 1) (c ++ enc l[j]) (by omega) (by omega) hc
      rw [ber_put.l3.eq hW]
      simp only [Bool.cond_decide]
      rw [if_pos (by omega), ix_tlv l j hlt]
      simp only [Option.bind_some, dec_tlv]
      rw [ih _ (List.getElem_mem _) c (by simp only [List.length_append] at hc; omega)]
      simp only [Option.bind_some]
      rw [w64 (x := (j : Int) + 1) (by omega) (by omega)]
      simp only [List.append_assoc] at this ⊢
      exact this
    · rw [List.drop_eq_nil_of_le (by omega)] at hc ⊢
      simp only [encs, List.append_nil] at hc ⊢
      exact put_end hW acc c l t j (by omega) hc ha
theorem put_node {sub : Option (Tlv → Int)} {t : Tlv} (hf : Fit sub t) (ht : wt t ≤ 1073741824) (ih : ∀ x ∈ t.f2, ∀ acc : List Int, (acc.length : Int) ≤ 1099511627776 → ber_put.f call (tup x) (rowI acc) = some ((), (rowI (acc ++ enc x), ())))
    (acc : List Int) (ha : (acc.length : Int) ≤ 1099511627776) : ber_put.f call (tup t) (rowI acc) = some ((), (rowI (acc ++ enc t), ())) := by
  have hw := wt_eq t
  have hl := wts_len t.f2
  have hlen := hf.len
  rw [ber_put.eq hW]
  have := put_loop hW t.f2 ih acc ha t (by omega) t.f2.length 0 (bytesOf t.f1) (by omega) (by omega) (by rw [List.drop_zero]; exact hlen)
  rw [List.drop_zero] at this
  rw [enc_eq]
  simp only [dTs_len, rowI_by]
  exact this
theorem put_eq : ∀ (d : Nat) (t : Tlv), 0 ≤ lenS d t → wt t ≤ 1073741824 → ∀ acc : List Int, (acc.length : Int) ≤ 1099511627776 → ber_put.f call (tup t) (rowI acc) = some ((), (rowI (acc ++ enc t), ())) := by
  intro d
  induction d with
  | zero =>
    intro t h ht
    have hf := lenS_fit0 h
    refine put_node hW hf ht ?_
    intro x hx
    by_cases c : t.f0 / 32 % 2 = 0
    · rw [hf.leaf c] at hx; cases hx
    · obtain ⟨_, f, h1, _⟩ := hf.made c; cases h1
  | succ d ih =>
    intro t h ht
    have hf := lenS_fit h
    refine put_node hW hf ht ?_
    intro x hx
    by_cases c : t.f0 / 32 % 2 = 0
    · rw [hf.leaf c] at hx; cases hx
    · obtain ⟨_, f, h1, h2⟩ := hf.made c
      cases h1
      exact ih x (h2 x hx) (by have := wt_mem _ _ hx; have := wt_eq t; omega)
theorem May_eq (t : Tlv) (ht : wt t ≤ 1073741824) (hw : lenW t ≤ 1073741824) : ber_May.f call (tup t) = some (decide (0 ≤ lenS 12 t), ()) := by
  have := length_eq hW 12 (by omega) t ht hw
  rw [show ((12 : Nat) : Int) = 12 from rfl] at this
  rw [ber_May.eq hW, this]; rfl
theorem Put_eq (t : Tlv) (ht : wt t ≤ 1073741824) (hw : lenW t ≤ 1073741824) : ber_Put.f call (tup t) = some (if 0 ≤ lenS 12 t then strOfNums (enc t) else [], ()) := by
  rw [ber_Put.eq hW, May_eq hW t ht hw]
  simp only [Option.bind_some, Bool.cond_not, Bool.cond_decide]
  by_cases c : 0 ≤ lenS 12 t
  · rw [if_pos c, if_pos c]
    have := put_eq hW 12 t c ht [] (by simp)
    rw [show rowI [] = ([] : List (List D)) from rfl] at this
    rw [this]
    simp only [Option.bind_some, List.nil_append, rowStr_rowI]
  · rw [if_neg c, if_neg c]

/-! the reference -/
theorem rlength_eq (n : Int) (h0 : 0 ≤ n) (h1 : n ≤ 1048576) : brookref1_length.f call n = some (strOfNums (lenb n), ()) := by
  rw [brookref1_length.eq hW]
  simp only [Bool.cond_decide]
  by_cases c : n < 128
  · rw [if_pos c, str_one, lenb_1 c, Int.emod_eq_of_lt h0 (by omega)]; rfl
  · rw [if_neg c]
    have step : ∀ (l : List Int) (k : Int), 0 < k → k ≤ 1048576 → l.length ≤ 3 → brookref1_length.l5 call lp (rowI l) k = brookref1_length.l5 call lp (rowI (k % 256 :: l)) (k / 256) := by
      intro l k g0 g1 g2
      rw [brookref1_length.l5.eq hW]
      simp only [Bool.cond_decide]
      rw [if_pos g0]
      have : app 1 1 [[D.int .u8 (IntKind.wrap .u8 k)]] (rowI l) = some (rowI (k % 256 :: l)) := by
        rw [wu8]; exact app_row (a := [k % 256]) (by simp only [List.length_cons, List.length_nil]; omega)
      rw [this]
      simp only [Option.bind_some]
      rw [Int.tdiv_eq_ediv_of_nonneg (by omega), w64 (by omega) (by omega)]
    have last : ∀ (l : List Int), l.length ≤ 4 → brookref1_length.l5 call lp (rowI l) 0 = some (strOfNums ((128 + (l.length : Int)) :: l), ()) := by
      intro l g
      rw [brookref1_length.l5.eq hW]
      simp only [Bool.cond_decide]
      rw [if_neg (by omega), str_one, rowI_len, w64 (by omega) (by omega), rowStr_rowI, Int.emod_eq_of_lt (by omega) (by omega)]
      simp only [Option.bind_some]
      rw [cat_eq (by simp only [strOf_len, List.length_cons, List.length_nil]; omega), ← strOf_append]
      rfl
    rw [show ([] : List (List D)) = rowI [] from rfl, step [] n (by omega) h1 (by simp)]
    by_cases c2 : n < 256
    · rw [show n / 256 = 0 by omega, last _ (by simp), lenb_2 c c2, Int.emod_eq_of_lt h0 c2]; rfl
    · rw [step _ (n / 256) (by omega) (by omega) (by simp)]
      by_cases c3 : n < 65536
      · rw [show n / 256 / 256 = 0 by omega, last _ (by simp), lenb_3 c2 c3, Int.emod_eq_of_lt (a := n / 256) (by omega) (by omega)]; rfl
      · rw [step _ (n / 256 / 256) (by omega) (by omega) (by simp), show n / 256 / 256 / 256 = 0 by omega, last _ (by simp), lenb_4 c3, show n / 256 / 256 % 256 = n / 65536 by omega]; rfl
theorem rsize_loop (t : Tlv) (hl : t.f2.length ≤ 1073741824) (ih : ∀ x ∈ t.f2, brookref1_size.f call (tup x) = some (((szR x).1, (szR x).2, ()), ())) :
    ∀ (m j : Nat) (n e : Int), t.f2.length - j ≤ m → j ≤ t.f2.length → 0 ≤ n → n ≤ 1099511627776 + (j : Int) * 1048581 → 0 ≤ e → e ≤ 12 → brookref1_size.l7 call lp n e (j : Int) (tup t) = some (((szL n e (t.f2.drop j)).1, (szL n e (t.f2.drop j)).2, ()), ()) := by
  intro m
  induction m with
  | zero =>
    intro j n e hj hj2 h0 h1 h2 h3
    rw [brookref1_size.l7.eq hW]
    simp only [Bool.cond_decide, dTs_len]
    rw [if_neg (by omega), List.drop_eq_nil_of_le (by omega)]
    simp only [szL]
    split <;> rfl
  | succ m ihm =>
    intro j n e hj hj2 h0 h1 h2 h3
    rw [brookref1_size.l7.eq hW]
    simp only [Bool.cond_decide, dTs_len]
    by_cases hlt : j < t.f2.length
    · rw [if_pos (by omega), ix_tlv t.f2 j hlt]
      simp only [Option.bind_some, dec_tlv]
      rw [List.drop_eq_getElem_cons hlt, ih _ (List.getElem_mem _)]
      simp only [Option.bind_some]
      simp only [szL]
      have hb := szR_up t.f2[j]
      have e1 : (if (szR t.f2[j]).1 < 0 then some true else some (decide (12 ≤ (szR t.f2[j]).2))) = some (decide ((szR t.f2[j]).1 < 0 ∨ 12 ≤ (szR t.f2[j]).2)) := by
        by_cases a : (szR t.f2[j]).1 < 0
        · simp [a]
        · simp [a]
      rw [e1]
      simp only [Option.bind_some, Bool.cond_decide]
      by_cases c : (szR t.f2[j]).1 < 0 ∨ 12 ≤ (szR t.f2[j]).2
      · rw [if_pos c, if_pos c]
      · rw [if_neg c, if_neg c, rlength_eq hW _ (by omega) hb]
        simp only [Option.bind_some, strOf_len]
        have hbd := szR_bd t.f2[j] (by omega)
        have hw := whole_bd (n := (szR t.f2[j]).1) (by omega)
        have hm := mxv_bd e ((szR t.f2[j]).2 + 1)
        have hjb : ((j : Int) + 1) * 1048581 = (j : Int) * 1048581 + 1048581 := by omega
        have hjb2 : (j : Int) * 1048581 ≤ 1073741824 * 1048581 := by omega
        unfold whole at hw
        rw [w64 (x := n + 1) (by omega) (by omega), w64 (x := n + 1 + ((lenb (szR t.f2[j]).1).length : Int)) (by omega) (by omega), w64 (x := n + 1 + ((lenb (szR t.f2[j]).1).length : Int) + (szR t.f2[j]).1) (by omega) (by omega), w64 (x := (szR t.f2[j]).2 + 1) (by omega) (by omega), w64 (x := (j : Int) + 1) (by omega) (by omega)]
        have e2 : n + 1 + ((lenb (szR t.f2[j]).1).length : Int) + (szR t.f2[j]).1 = n + whole (szR t.f2[j]).1 := by unfold whole; omega
        rw [e2]
        have e3 : n + whole (szR t.f2[j]).1 ≤ 1099511627776 + ((j : Int) + 1) * 1048581 := by unfold whole; omega
        exact ihm (j + 1) _ _ (by omega) (by omega) (by unfold whole; omega) (by simpa using e3) (by omega) (by omega)
    · rw [if_neg (by omega), List.drop_eq_nil_of_le (by omega)]
      simp only [szL]
      split <;> rfl
theorem rsize_eq : ∀ (k : Nat) (t : Tlv), wt t ≤ k → wt t ≤ 1073741824 → lenW t ≤ 1073741824 → brookref1_size.f call (tup t) = some (((szR t).1, (szR t).2, ()), ()) := by
  intro k
  induction k with
  | zero => intro t h; have := wt_pos t; omega
  | succ k ih =>
    intro t hk ht hw
    have hwt := wt_eq t
    have hln := wts_len t.f2
    have hlw := lenW_eq t
    have ih' : ∀ x ∈ t.f2, brookref1_size.f call (tup x) = some (((szR x).1, (szR x).2, ()), ()) := fun x hx => by
      have := wt_mem _ _ hx
      have := lenWs_mem _ _ hx
      exact ih x (by omega) (by omega) (by omega)
    have hloop := fun e (h1 : (0 : Int) ≤ e) (h2 : e ≤ 12) => rsize_loop hW t (by omega) ih' t.f2.length 0 t.f1.length e (by omega) (by omega) (by omega) (by omega) h1 h2
    simp only [List.drop_zero, Int.natCast_zero] at hloop
    rw [brookref1_size.eq hW, szR_eq]
    simp only [Bool.cond_decide, Bool.cond_not, dTs_len]
    by_cases c0 : t.f0 < 0
    · simp only [c0, true_or, if_true, Option.bind_some, cond_true]
    · by_cases c1 : 255 < t.f0
      · simp only [c0, c1, false_or, true_or, if_true, if_false, decide_true, Option.bind_some, cond_true]
      · by_cases c2 : t.f0 % 32 = 31
        · simp only [c0, c1, false_or, true_or, if_true, if_false, decide_false, Option.bind_some, cond_false, and31 (x := t.f0) (by omega) (by omega), c2, decide_true, cond_true]
        · simp only [c0, c1, false_or, if_false, decide_false, Option.bind_some, cond_false, and31 (x := t.f0) (by omega) (by omega), c2, and32 (x := t.f0) (by omega) (by omega)]
          by_cases c3 : t.f0 / 32 % 2 = 0
          · have c3' : t.f0 / 32 % 2 * 32 = 0 := by omega
            simp only [c3', if_true, Option.bind_some]
            cases hf : t.f2 with
            | nil =>
              simp only [List.length_nil, Int.natCast_zero, Int.lt_irrefl, decide_false, cond_false, Option.bind_some, c3, ne_eq, not_true_eq_false, and_false, false_and, or_self, if_false, if_true]
              have := hloop 0 (by omega) (by omega)
              rw [hf] at this
              exact this
            | cons x r =>
              have : (0 : Int) < ((x :: r).length : Int) := by simp only [List.length_cons]; omega
              simp only [this, decide_true, cond_true, Option.bind_some, c3]
              simp
          · have c3' : ¬ t.f0 / 32 % 2 * 32 = 0 := by omega
            simp only [c3', if_false, Option.bind_some, cond_false, c3, false_and, false_or, ne_eq, not_false_eq_true, true_and]
            by_cases c4 : t.f1 = []
            · simp only [c4, decide_true, Bool.not_true, cond_false, not_true_eq_false, if_false]
              have := hloop 1 (by omega) (by omega)
              rw [c4] at this
              exact this
            · simp only [c4, decide_false, Bool.not_false, cond_true, not_false_eq_true, if_true]
theorem rput_loop (t : Tlv) (hl : t.f2.length ≤ 1073741824) (ih : ∀ x ∈ t.f2, ∀ acc : List Int, ((acc ++ enc x).length : Int) ≤ 1099511627776 → brookref1_put.f call (tup x) (rowI acc) = some ((), (rowI (acc ++ enc x), ()))) :
    ∀ (m j : Nat) (acc : List Int), t.f2.length - j ≤ m → j ≤ t.f2.length → ((acc ++ encs (t.f2.drop j)).length : Int) ≤ 1099511627776 → brookref1_put.l6 call lp (j : Int) (tup t) (rowI acc) = some ((), (rowI (acc ++ encs (t.f2.drop j)), ())) := by
  intro m
  induction m with
  | zero =>
    intro j acc hj hj2 ha
    rw [brookref1_put.l6.eq hW]
    simp only [Bool.cond_decide, dTs_len]
    rw [if_neg (by omega), List.drop_eq_nil_of_le (by omega)]
    simp [encs]
  | succ m ihm =>
    intro j acc hj hj2 ha
    rw [brookref1_put.l6.eq hW]
    simp only [Bool.cond_decide, dTs_len]
    by_cases hlt : j < t.f2.length
    · rw [List.drop_eq_getElem_cons hlt] at ha ⊢
      simp only [encs, ← List.append_assoc] at ha ⊢
      rw [if_pos (by omega), ix_tlv t.f2 j hlt]
      simp only [Option.bind_some, dec_tlv]
      rw [ih _ (List.getElem_mem _) acc (by simp only [List.length_append] at ha ⊢; omega)]
      simp only [Option.bind_some]
      rw [w64 (x := (j : Int) + 1) (by omega) (by omega)]
      exact ihm (j + 1) _ (by omega) (by omega) ha
    · rw [if_neg (by omega), List.drop_eq_nil_of_le (by omega)]
      simp [encs]
theorem rput_eq : ∀ (k : Nat) (t : Tlv), wt t ≤ k → 0 ≤ (szR t).1 → wt t ≤ 1073741824 → lenW t ≤ 1073741824 → ∀ acc : List Int, ((acc ++ enc t).length : Int) ≤ 1099511627776 → brookref1_put.f call (tup t) (rowI acc) = some ((), (rowI (acc ++ enc t), ())) := by
  intro k
  induction k with
  | zero => intro t h; have := wt_pos t; omega
  | succ k ih =>
    intro t hk h ht hw acc ha
    have hwt := wt_eq t
    have hln := wts_len t.f2
    have hlw := lenW_eq t
    have hall := szR_all t h
    have hc := szR_cont t h
    have hb := szR_bd t h
    obtain ⟨sub, hf⟩ := fit_any ((may_iff t).2 h)
    have ih' : ∀ x ∈ t.f2, ∀ acc : List Int, ((acc ++ enc x).length : Int) ≤ 1099511627776 → brookref1_put.f call (tup x) (rowI acc) = some ((), (rowI (acc ++ enc x), ())) := fun x hx acc ha => by
      have := wt_mem _ _ hx
      have := lenWs_mem _ _ hx
      exact ih x (by omega) (hall x hx) (by omega) (by omega) acc ha
    have hen := enc_len t
    rw [enc_eq] at ha ⊢
    rw [brookref1_put.eq hW, rsize_eq hW _ t (Nat.le_refl _) ht hw]
    simp only [Option.bind_some]
    have ha' : (acc.length : Int) + (1 + ((lenb ((cont t).length : Int)).length : Int) + (cont t).length) ≤ 1099511627776 := by
      simp only [List.length_append, List.length_cons] at ha; omega
    have hcl : (cont t).length = t.f1.length + (encs t.f2).length := by unfold cont; rw [List.length_append, by_len]
    rw [app_one (by omega)]
    simp only [Option.bind_some]
    rw [rlength_eq hW _ (by omega) hb.1]
    simp only [Option.bind_some, rowI_by]
    rw [by_strOf (lenb_bd (by omega) hb.1), hc, app_row (by simp only [List.length_append, List.length_cons, List.length_nil]; omega)]
    simp only [Option.bind_some]
    rw [app_row (by simp only [List.length_append, List.length_cons, List.length_nil, by_len]; omega)]
    simp only [Option.bind_some]
    have := rput_loop hW t (by omega) ih' t.f2.length 0 (acc ++ [t.f0 % 256] ++ lenb ((cont t).length : Int) ++ bytesOf t.f1) (by omega) (by omega) (by simp only [List.drop_zero, List.length_append, List.length_cons, List.length_nil, by_len]; omega)
    rw [List.drop_zero, Int.natCast_zero] at this
    rw [this]
    simp [cont]
theorem MayTlv_eq (t : Tlv) (ht : wt t ≤ 1073741824) (hw : lenW t ≤ 1073741824) : brookref1_MayTlv.f call (tup t) = some (decide (0 ≤ lenS 12 t), ()) := by
  rw [brookref1_MayTlv.eq hW, rsize_eq hW _ t (Nat.le_refl _) ht hw]
  simp only [Option.bind_some]
  rw [decide_eq_decide.2 (may_iff t)]
theorem PutTlv_eq (t : Tlv) (ht : wt t ≤ 1073741824) (hw : lenW t ≤ 1073741824) : brookref1_PutTlv.f call (tup t) = some (if 0 ≤ lenS 12 t then strOfNums (enc t) else [], ()) := by
  rw [brookref1_PutTlv.eq hW, MayTlv_eq hW t ht hw]
  simp only [Option.bind_some, Bool.cond_not, Bool.cond_decide]
  by_cases c : 0 ≤ lenS 12 t
  · rw [if_pos c, if_pos c]
    have hc := szR_cont t ((may_iff t).1 c)
    have hb := szR_bd t ((may_iff t).1 c)
    have hw2 := whole_bd (n := ((cont t).length : Int)) (by omega)
    have hen := enc_len t
    have := rput_eq hW _ t (Nat.le_refl _) ((may_iff t).1 c) ht hw [] (by simp only [List.nil_append]; omega)
    rw [show rowI [] = ([] : List (List D)) from rfl] at this
    rw [this]
    simp only [Option.bind_some, List.nil_append, rowStr_rowI]
  · rw [if_neg c, if_neg c]
end
end Go.Proofs.YtcpidokhkcmdfaaGreat.B
