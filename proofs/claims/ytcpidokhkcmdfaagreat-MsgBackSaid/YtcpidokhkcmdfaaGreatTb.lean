/- Which filters may be: both packages say the same. Conditions: those of each theorem. -/
import Derived.Test.YtcpidokhkcmdfaaGreatTa
namespace Go.Proofs.YtcpidokhkcmdfaaGreat.B
open Go Go.Proofs Go.Proofs.YtcpidokhkcmdfaaGreat.I
set_option linter.unusedVariables false
set_option linter.unusedSimpArgs false
def letterB (c : Int) : Bool := (decide (97 ≤ c) && decide (c ≤ 122)) || (decide (65 ≤ c) && decide (c ≤ 90))
def nameB (c : Int) : Bool := (letterB c || (decide (48 ≤ c) && decide (c ≤ 57))) || decide (c = 45)
def typedB (s : List UInt8) : Bool := !(decide (s = []) || decide (30 < (s.length : Int))) && letterB ((bytesOf s).getD 0 0) && (bytesOf s).all nameB
def mayP (ps : List (List UInt8)) : Bool := decide (2 ≤ (ps.length : Int)) && decide ((ps.length : Int) ≤ 8) && !(decide ((ps.length : Int) = 2) && ps.all fun s => decide (s = [])) &&
  allI (fun j s => decide ((s.length : Int) ≤ 100) && !(decide (s = []) && decide (0 < (j : Int)) && decide ((j : Int) < (ps.length : Int) - 1))) 0 ps
mutual
def mayF : Flt → Int → Bool
  | ⟨k, t, v, ps, ks⟩, d =>
    if k = 1 ∨ k = 2 then decide (t = []) && decide (v = []) && decide ((ps.length : Int) = 0) && decide ((ks.length : Int) ≤ 40) && (decide ((ks.length : Int) = 0) || decide (1 ≤ d)) && mayFs ks (d - 1)
    else if k = 3 then decide (t = []) && decide (v = []) && decide ((ps.length : Int) = 0) && decide ((ks.length : Int) = 1) && (decide ((ks.length : Int) = 0) || decide (1 ≤ d)) && mayFs ks (d - 1)
    else if k = 4 ∨ k = 6 ∨ k = 7 then typedB t && decide ((ks.length : Int) = 0) && decide ((ps.length : Int) = 0) && decide ((v.length : Int) ≤ 100)
    else if k = 5 then typedB t && decide ((ks.length : Int) = 0) && decide (v = []) && mayP ps
    else if k = 8 then typedB t && decide ((ks.length : Int) = 0) && decide (v = []) && decide ((ps.length : Int) = 0)
    else false
def mayFs : List Flt → Int → Bool
  | [], _ => true
  | x :: r, d => mayF x d && mayFs r d
end
theorem mayFs_all : ∀ (l : List Flt) (d : Int), mayFs l d = l.all fun x => mayF x d
  | [], d => rfl
  | x :: r, d => by simp [mayFs, mayFs_all r]
section
variable {call : Oracle} {lp : Loops} (hW : Fix Tryz.prog hs call lp)
include hW
theorem letter_eq (c : Int) : filter_letter.f call c = some (letterB c, ()) := by
  rw [filter_letter.eq hW]
  simp only [andS, orS, Option.bind_some, bind_id]
  rfl
theorem name_eq (c : Int) : filter_name.f call c = some (nameB c, ()) := by
  rw [filter_name.eq hW, letter_eq hW]
  simp only [andS, orS, Option.bind_some, bind_id]
  rfl
theorem rletter_eq (c : Int) : brookref1_letter.f call c = some (letterB c, ()) := by
  rw [brookref1_letter.eq hW]
  simp only [andS, orS, Option.bind_some, bind_id]
  rfl
theorem typed_eq (s : List UInt8) (hs : s.length ≤ 1073741824) : filter_typed.f call s = some (typedB s, ()) := by
  rw [filter_typed.eq hW]
  simp only [orS, Option.bind_some]
  unfold typedB
  cases c : (decide (s = []) || decide (30 < (s.length : Int))) with
  | true => rfl
  | false =>
    have hne : s ≠ [] := by intro h; simp [h] at c
    have hpos : 0 < s.length := List.length_pos_iff.2 hne
    simp only [cond_false]
    rw [bt_by s (by omega) (by omega)]
    simp only [Option.bind_some, letter_eq hW, show (0 : Int).toNat = 0 from rfl, Bool.not_false, Bool.true_and]
    cases cl : letterB ((bytesOf s).getD 0 0) with
    | false => rfl
    | true =>
      simp only [Bool.not_true, cond_false, Bool.true_and]
      rw [slices_ContainsFunc_byte_byte.eq hW, slices_IndexFunc_byte_byte.eq hW, rowI_by, rowI_len]
      obtain ⟨r, h1, h2⟩ := loop_idx (L := fun i => slices_IndexFunc_byte_byte.l2 call lp (rowI (bytesOf s)) ((bytesOf s).length : Int) i) (xs := bytesOf s) (q := fun c => !nameB c) (mk := fun i => (i, ())) (fun j h => by
        have hj := by_len s
        rw [slices_IndexFunc_byte_byte.l2.eq hW]
        simp only [Bool.cond_decide]
        rw [if_pos (by omega)]
        have e1 : ix 1 (rowI (bytesOf s)) (j : Int) = some [D.int .u8 (bytesOf s)[j]] := ix_map (fun n : Int => [D.int .u8 n]) (fun _ => rfl) _ j h
        have e2 : decs [.int .u8] (sub [D.int .u8 (bytesOf s)[j]] 0 1) = some ((bytesOf s)[j], ()) := rfl
        rw [e1]
        simp only [Option.bind_some, e2, filter_typed_1.eq hW, name_eq hW]
        rw [w64 (x := (j : Int) + 1) (by omega) (by omega)]
        cases nameB (bytesOf s)[j] <;> rfl) (by
        rw [slices_IndexFunc_byte_byte.l2.eq hW]
        simp only [Bool.cond_decide]
        rw [if_neg (by omega)])
      rw [h1]
      simp only [Option.bind_some, h2]
      congr 2
      rw [← List.not_all_eq_any_not]
      simp
theorem MayType_eq (s : List UInt8) (hs : s.length ≤ 1073741824) : brookref1_MayType.f call s = some (typedB s, ()) := by
  rw [brookref1_MayType.eq hW]
  simp only [orS, Option.bind_some]
  unfold typedB
  cases c : (decide (s = []) || decide (30 < (s.length : Int))) with
  | true => rfl
  | false =>
    have hne : s ≠ [] := by intro h; simp [h] at c
    have hpos : 0 < s.length := List.length_pos_iff.2 hne
    simp only [cond_false]
    rw [bt_by s (by omega) (by omega)]
    simp only [Option.bind_some, rletter_eq hW, show (0 : Int).toNat = 0 from rfl, Bool.not_false, Bool.true_and]
    cases cl : letterB ((bytesOf s).getD 0 0) with
    | false => rfl
    | true =>
      simp only [Bool.not_true, cond_false, Bool.true_and]
      have hj := by_len s
      have := loop_all (L := fun i => brookref1_MayType.l4 call lp s i) (xs := bytesOf s) (p := fun _ c => nameB c) (yes := (true, ())) (no := (false, ())) (fun j h => by
        rw [brookref1_MayType.l4.eq hW]
        simp only [Bool.cond_decide]
        rw [if_pos (by omega), bt_by s (by omega) (by omega), Int.toNat_natCast, List.getD_eq_getElem?_getD, List.getElem?_eq_getElem h]
        simp only [Option.getD_some, Option.bind_some, rletter_eq hW, bind_id]
        rw [w64 (x := (j : Int) + 1) (by omega) (by omega)]
        generalize (bytesOf s)[j] = x
        unfold nameB
        cases letterB x with
        | true => simp
        | false =>
          by_cases a : x < 48
          · by_cases b : x = 45
            · simp [a, b]
            · have : ¬ 48 ≤ x := by omega
              simp [a, b, this]
          · by_cases b : 57 < x
            · have : ¬ x = 45 := by omega
              have h2 : ¬ x ≤ 57 := by omega
              simp [a, b, this, h2]
            · have : 48 ≤ x := by omega
              have h2 : x ≤ 57 := by omega
              simp [a, b, this, h2]) (by
        rw [brookref1_MayType.l4.eq hW]
        simp only [Bool.cond_decide]
        rw [if_neg (by omega)])
      rw [this, allI_all]
      cases (bytesOf s).all nameB <;> rfl
end
end Go.Proofs.YtcpidokhkcmdfaaGreat.B
