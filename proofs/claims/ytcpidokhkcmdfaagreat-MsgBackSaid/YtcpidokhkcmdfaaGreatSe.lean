/- What package ber lets be, and the bytes that it puts, by lists of numbers. Conditions: those of each theorem. -/
import Derived.Test.YtcpidokhkcmdfaaGreatSd
namespace Go.Proofs.YtcpidokhkcmdfaaGreat.B
open Go Go.Proofs Go.Proofs.YtcpidokhkcmdfaaGreat.I
set_option linter.unusedVariables false
set_option linter.unusedSimpArgs false
/-- bytes as a row -/
def rowI (l : List Int) : List (List D) := l.map fun n => [D.int .u8 n]
theorem rowI_by (s : List UInt8) : byteRow s = rowI (bytesOf s) := by simp [byteRow, rowI, bytesOf]
theorem rowI_append (a b : List Int) : rowI (a ++ b) = rowI a ++ rowI b := by simp [rowI]
theorem rowI_len (l : List Int) : (rowI l).length = l.length := by simp [rowI]
theorem rowI_sz (l : List Int) : ∀ e ∈ rowI l, e.length = 1 := by
  intro e he
  obtain ⟨x, _, rfl⟩ := List.mem_map.1 he
  rfl
theorem rowStr_rowI (l : List Int) : rowStr (rowI l) = some (strOfNums l) := by
  unfold rowStr
  induction l with
  | nil => rfl
  | cons b s ih =>
    have e : rowI (b :: s) = [D.int .u8 b] :: rowI s := rfl
    have e2 : I.byteOf [D.int .u8 b] = some (UInt8.ofNat b.toNat) := rfl
    rw [e]
    simp only [omap, e2, Option.bind_some, ih]
    rfl
theorem app_row {a b : List Int} (h : a.length + b.length ≤ 140737488355328) : app 1 1 (rowI a) (rowI b) = some (rowI (a ++ b)) := by
  rw [app_eq (by rw [rowI_len, rowI_len]; omega) (rowI_sz b), rowI_append]
theorem app_one {a : List Int} {n : Int} (h : a.length + 1 ≤ 140737488355328) : app 1 1 (rowI a) [[D.int .u8 (IntKind.wrap .u8 n)]] = some (rowI (a ++ [n % 256])) := by
  rw [wu8]
  exact app_row (b := [n % 256]) h
/-- a tlv as a struct -/
abbrev tup (t : Tlv) : Int × List UInt8 × List (List D) × Unit := (t.f0, t.f1, dTs t.f2, ())
theorem dec_tlv (t : Tlv) : decs [.int .i64, .str, .list] (sub (dT t) 0 3) = some (tup t) := by rw [dT_eq]; rfl
theorem ix_tlv (l : List Tlv) (j : Nat) (h : j < l.length) : ix 3 (dTs l) (j : Int) = some (dT l[j]) := by
  rw [ix_eq (by omega) (by rw [dTs_len]; omega) (dTs_sz l)]
  simp [dTs_map]
mutual
/-- how many bytes its texts have -/
def lenW : Tlv → Nat
  | ⟨_, s, l⟩ => s.length + lenWs l
def lenWs : List Tlv → Nat
  | [] => 0
  | x :: r => lenW x + lenWs r
end
theorem lenW_eq (x : Tlv) : lenW x = x.f1.length + lenWs x.f2 := by cases x; rfl
theorem lenWs_mem : ∀ (l : List Tlv) (x : Tlv), x ∈ l → lenW x ≤ lenWs l
  | y :: r, x, h => by
    simp only [lenWs]
    rcases List.mem_cons.1 h with rfl | h
    · omega
    · have := lenWs_mem r x h
      omega
section
variable {call : Oracle} {lp : Loops} (hW : Fix Tryz.prog hs call lp)
include hW
theorem size_eq (n : Int) (h0 : 0 ≤ n) (h1 : n ≤ 16777215) : ber_size.f call n = some (if n < 256 then 1 else if n < 65536 then 2 else 3, ()) := by
  have h3 : ∀ k, ber_size.l3 call lp 0 k = some (k, ()) := fun k => by rw [ber_size.l3.eq hW]; rfl
  rw [ber_size.eq hW, shr8]
  by_cases c : n < 256
  · rw [if_pos c, show n / 256 = 0 by omega, h3]
  · rw [if_neg c, ber_size.l3.eq hW]
    simp only [Bool.cond_decide]
    rw [if_pos (by omega), shr8, w64 (x := 1 + 1) (by omega) (by omega)]
    by_cases c2 : n < 65536
    · rw [if_pos c2, show n / 256 / 256 = 0 by omega, h3]; rfl
    · rw [if_neg c2, ber_size.l3.eq hW]
      simp only [Bool.cond_decide]
      rw [if_pos (by omega), shr8, w64 (x := 1 + 1 + 1) (by omega) (by omega), show n / 256 / 256 / 256 = 0 by omega, h3]; rfl
theorem whole_eq (n : Int) (h0 : 0 ≤ n) (h1 : n ≤ 1048576) : ber_whole.f call n = some (whole n, ()) := by
  rw [ber_whole.eq hW]
  simp only [Bool.cond_decide]
  unfold whole
  rw [lenb_len]
  by_cases c : n < 128
  · rw [if_pos c, if_pos c, w64 (by omega) (by omega)]
    congr 2
  · rw [if_neg c, if_neg c, size_eq hW n h0 (by omega)]
    simp only [Option.bind_some]
    by_cases c2 : n < 256
    · rw [if_pos c2, if_pos c2, w64 (x := 2 + 1) (by omega) (by omega), w64 (by omega) (by omega)]
      congr 2
    · rw [if_neg c2, if_neg c2]
      by_cases c3 : n < 65536
      · rw [if_pos c3, if_pos c3, w64 (x := 2 + 2) (by omega) (by omega), w64 (by omega) (by omega)]
        congr 2
      · rw [if_neg c3, if_neg c3, w64 (x := 2 + 3) (by omega) (by omega), w64 (by omega) (by omega)]
        congr 2
theorem length_loop (d : Nat) (hd1 : d ≤ 100) (l : List Tlv) (hl : l.length ≤ 1073741824) (ih : ∀ x ∈ l, ber_length.f call (tup x) d = some (lenS d x, ())) :
    ∀ (m j : Nat) (n : Int), l.length - j ≤ m → j ≤ l.length → 0 ≤ n → n ≤ 1048576 → ber_length.l8 call lp ((d : Int) + 1) n (dTs l) (l.length : Int) (j : Int) = some (lens (lenS d) n (l.drop j), ()) := by
  intro m
  induction m with
  | zero =>
    intro j n hj hj2 h0 h1
    rw [ber_length.l8.eq hW]
    simp only [Bool.cond_decide]
    rw [if_neg (by omega), List.drop_eq_nil_of_le (by omega)]
    simp only [lens]
    split <;> rfl
  | succ m ihm =>
    intro j n hj hj2 h0 h1
    rw [ber_length.l8.eq hW]
    simp only [Bool.cond_decide]
    by_cases hlt : j < l.length
    · rw [if_pos (by omega), ix_tlv l j hlt]
      simp only [Option.bind_some, dec_tlv]
      rw [List.drop_eq_getElem_cons hlt, w64 (x := (d : Int) + 1 - 1) (by omega) (by omega), show (d : Int) + 1 - 1 = d by omega, ih _ (List.getElem_mem _)]
      simp only [Option.bind_some]
      have hb := lenS_bd d l[j]
      simp only [lens]
      by_cases c : lenS d l[j] < 0
      · rw [if_pos c, if_pos c]
      · rw [if_neg c, if_neg c, whole_eq hW _ (by omega) hb]
        simp only [Option.bind_some]
        have hw := whole_bd (n := lenS d l[j]) (by omega)
        rw [w64 (x := n + whole (lenS d l[j])) (by omega) (by omega)]
        by_cases c3 : 1048576 < n + whole (lenS d l[j])
        · rw [if_pos c3, if_pos c3]
        · rw [if_neg c3, if_neg c3, w64 (x := (j : Int) + 1) (by omega) (by omega)]
          exact ihm (j + 1) _ (by omega) (by omega) (by omega) (by omega)
    · rw [if_neg (by omega), List.drop_eq_nil_of_le (by omega)]
      simp only [lens]
      split <;> rfl
theorem length_node (t : Tlv) (a : Int) (sub : Option (Tlv → Int)) (hl : t.f2.length ≤ 1073741824) (hs : t.f1.length ≤ 1073741824) (h0 : sub = none → a < 1) (h1 : ∀ f, sub = some f → 1 ≤ a ∧ ber_length.l8 call lp a 0 (dTs t.f2) (t.f2.length : Int) 0 = some (lens f 0 t.f2, ())) :
    ber_length.f call (tup t) a = some (lenN t sub, ()) := by
  rw [ber_length.eq hW]
  unfold lenN
  simp only [Bool.cond_decide, Bool.cond_not]
  by_cases c0 : t.f0 < 0
  · simp only [c0, true_or, if_true, Option.bind_some, cond_true]
  · by_cases c1 : 255 < t.f0
    · simp only [c0, c1, false_or, true_or, if_true, if_false, decide_true, Option.bind_some, cond_true]
    · by_cases c2 : t.f0 % 32 = 31
      · simp only [c0, c1, false_or, if_true, if_false, decide_false, Option.bind_some, cond_false, and31 (x := t.f0) (by omega) (by omega), c2, decide_true, cond_true]
      · simp only [c0, c1, false_or, if_false, decide_false, Option.bind_some, cond_false, and31 (x := t.f0) (by omega) (by omega), c2, and32 (x := t.f0) (by omega) (by omega)]
        have h2 : ∀ x : Int, 0 ≤ x → (x % 2 * 32 = 0 ↔ x % 2 = 0) := fun x _ => by omega
        by_cases c3 : t.f0 / 32 % 2 = 0
        · have c3' : t.f0 / 32 % 2 * 32 = 0 := by omega
          rw [if_pos c3]
          simp only [c3', if_true, Option.bind_some, dTs_len]
          cases hf : t.f2 with
          | nil =>
            simp only [List.length_nil, Int.natCast_zero, Int.lt_irrefl, decide_false, cond_false, Option.bind_some, if_true]
            rw [ber_length.l8.eq hW]
            simp only [Bool.cond_decide, Int.lt_irrefl, if_false]
            split <;> rfl
          | cons x r =>
            have : (0 : Int) < ((x :: r).length : Int) := by simp only [List.length_cons]; omega
            simp only [this, decide_true, cond_true]
            simp
        · have c3' : ¬ t.f0 / 32 % 2 * 32 = 0 := by omega
          rw [if_neg c3]
          simp only [c3', if_false, Option.bind_some, cond_false]
          by_cases c4 : 0 < t.f1.length
          · have c4' : (0 : Int) < (t.f1.length : Int) := by omega
            simp only [c4, c4', if_true, Option.bind_some, cond_true]
          · have c4' : ¬ (0 : Int) < (t.f1.length : Int) := by omega
            simp only [c4, c4', if_false, Option.bind_some, dTs_len]
            cases sub with
            | none =>
              have := h0 rfl
              simp only [this, decide_true, cond_true]
            | some f =>
              obtain ⟨g1, g2⟩ := h1 f rfl
              have : ¬ a < 1 := by omega
              simp only [this, decide_false, cond_false]
              rw [show (t.f1.length : Int) = 0 by omega]
              exact g2
theorem length_eq : ∀ (d : Nat), d ≤ 100 → ∀ t : Tlv, wt t ≤ 1073741824 → lenW t ≤ 1073741824 → ber_length.f call (tup t) d = some (lenS d t, ()) := by
  intro d
  induction d with
  | zero =>
    intro _ t ht hw
    have hwt := wt_eq t
    have hln := wts_len t.f2
    have hlw := lenW_eq t
    exact length_node hW t _ none (by omega) (by omega) (fun _ => by omega) (fun f hf => by cases hf)
  | succ d ih =>
    intro hd1 t ht hw
    have hwt := wt_eq t
    have hln := wts_len t.f2
    have hlw := lenW_eq t
    refine length_node hW t _ (some (lenS d)) (by omega) (by omega) (fun h => by cases h) (fun f hf => ?_)
    injection hf with hf
    subst hf
    refine ⟨by omega, ?_⟩
    have := length_loop hW d (by omega) t.f2 (by omega) (fun x hx => ih (by omega) x (by have := wt_mem _ _ hx; omega) (by have := lenWs_mem _ _ hx; omega)) t.f2.length 0 0 (by omega) (by omega) (by omega) (by omega)
    rw [List.drop_zero] at this
    rw [show (((d + 1 : Nat) : Int)) = (d : Int) + 1 by omega]
    exact this
end
end Go.Proofs.YtcpidokhkcmdfaaGreat.B
