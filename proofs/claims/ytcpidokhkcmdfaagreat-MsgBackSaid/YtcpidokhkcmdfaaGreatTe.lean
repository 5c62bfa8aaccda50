/- Whether two are one: equality, as both packages tell it. Conditions: those of each theorem. -/
import Derived.Test.YtcpidokhkcmdfaaGreatTd
namespace Go.Proofs.YtcpidokhkcmdfaaGreat.B
open Go Go.Proofs Go.Proofs.YtcpidokhkcmdfaaGreat.I
set_option linter.unusedVariables false
set_option linter.unusedSimpArgs false
open Classical in
/-- Are they one? -/
noncomputable def eqB {α : Type} (a b : α) : Bool := decide (a = b)
theorem eqB_iff {α : Type} {a b : α} : eqB a b = true ↔ a = b := by unfold eqB; simp
theorem eqB_dec {α : Type} {a b : α} [Decidable (a = b)] : decide (a = b) = eqB a b := by
  rw [Bool.eq_iff_iff, eqB_iff]; simp
theorem eqB_self {α : Type} (a : α) : eqB a a = true := eqB_iff.2 rfl
theorem beq_eqB (a b : Bool) : (a == b) = eqB a b := by rw [Bool.eq_iff_iff, eqB_iff]; simp
theorem allI_eq {α : Type} {ys : List α} {p : Nat → α → Bool} (hp : ∀ (j : Nat) (h : j < ys.length) (x : α), p j x = eqB x ys[j]) : ∀ (xs : List α) (j : Nat), j + xs.length = ys.length → (allI p j xs = true ↔ xs = ys.drop j)
  | [], j, h => by
    rw [List.drop_eq_nil_of_le (by simp at h; omega)]
    simp [allI]
  | x :: r, j, h => by
    simp only [List.length_cons] at h
    have hj : j < ys.length := by omega
    rw [List.drop_eq_getElem_cons hj]
    simp only [allI, Bool.and_eq_true, hp j hj, eqB_iff, List.cons.injEq]
    rw [allI_eq hp r (j + 1) (by omega)]
theorem loop_eq {α β : Type} {L : Int → Option β} {xs ys : List α} {yes no : β} (hl : xs.length = ys.length) (hstep : ∀ (j : Nat) (h : j < xs.length), L j = if eqB xs[j] (ys[j]'(by omega)) = true then L ((j : Int) + 1) else some no) (hend : L xs.length = some yes) : L 0 = some (bif eqB xs ys then yes else no) := by
  have h := loop_all (L := L) (xs := xs) (p := fun j x => if h : j < ys.length then eqB x ys[j] else false) (yes := yes) (no := no) (fun j h => by
    rw [hstep j h]
    have : j < ys.length := by omega
    simp only [this, dif_pos]) hend
  rw [h]
  congr 2
  rw [Bool.eq_iff_iff, eqB_iff, allI_eq (ys := ys) (fun j h x => by simp only [h, dif_pos]) xs 0 (by omega), List.drop_zero]
theorem len_eqB {α : Type} {a b : List α} (h : ¬ (a.length : Int) = b.length) : eqB a b = false := by
  cases e : eqB a b with
  | false => rfl
  | true => rw [eqB_iff.1 e] at h; exact absurd rfl h
theorem pair_eqB {α β : Type} {a a' : α} {b b' : β} {γ : Type} {x y : γ} (h : x = y ↔ a = a' ∧ b = b') : (eqB a a' && eqB b b') = eqB x y := by
  rw [Bool.eq_iff_iff, eqB_iff, h]; simp [eqB_iff]
section
variable {call : Oracle} {lp : Loops} (hW : Fix Tryz.prog hs call lp)
include hW
theorem strs_eq (a b : List (List UInt8)) (ha : a.length ≤ 1073741824) : slices_Equal_string_string.f call (dSs a) (dSs b) = some (eqB a b, ()) := by
  rw [slices_Equal_string_string.eq hW, dSs_len, dSs_len]
  by_cases c : (a.length : Int) = b.length
  · have hl : a.length = b.length := by omega
    simp only [c, decide_true, Bool.not_true, cond_false]
    rw [← c]
    have := loop_eq (L := fun i => slices_Equal_string_string.l4 call lp (dSs a) (dSs b) (a.length : Int) i) (yes := (true, ())) (no := (false, ())) hl (fun j h => by
      rw [slices_Equal_string_string.l4.eq hW]
      rw [decide_eq_true (show (j : Int) < (a.length : Int) by omega), cond_true, ix_str a j h, ix_str b j (by omega)]
      simp only [Option.bind_some, dec_str, eqB_dec]
      rw [w64 (x := (j : Int) + 1) (by omega) (by omega)]
      cases eqB a[j] (b[j]'(by omega)) <;> rfl) (by
      rw [slices_Equal_string_string.l4.eq hW]
      simp only [Bool.cond_decide]
      rw [if_neg (by omega)])
    rw [this]
    cases eqB a b <;> rfl
  · simp only [c, decide_false, Bool.not_false, cond_true]
    rw [len_eqB c]
theorem Texts_eq (a b : List (List UInt8)) (ha : a.length ≤ 1073741824) : brookref1_Texts.f call (dSs a) (dSs b) = some (eqB a b, ()) := by
  rw [brookref1_Texts.eq hW, dSs_len, dSs_len]
  by_cases c : (a.length : Int) = b.length
  · have hl : a.length = b.length := by omega
    simp only [c, decide_true, Bool.not_true, cond_false]
    have := loop_eq (L := fun i => brookref1_Texts.l4 call lp (dSs a) (dSs b) i) (yes := (true, ())) (no := (false, ())) hl (fun j h => by
      rw [brookref1_Texts.l4.eq hW, dSs_len]
      rw [decide_eq_true (show (j : Int) < (a.length : Int) by omega), cond_true, ix_str a j h, ix_str b j (by omega)]
      simp only [Option.bind_some, dec_str, eqB_dec]
      rw [w64 (x := (j : Int) + 1) (by omega) (by omega)]
      cases eqB a[j] (b[j]'(by omega)) <;> rfl) (by
      rw [brookref1_Texts.l4.eq hW, dSs_len]
      simp only [Bool.cond_decide]
      rw [if_neg (by omega)])
    rw [this]
    cases eqB a b <;> rfl
  · simp only [c, decide_false, Bool.not_false, cond_true]
    rw [len_eqB c]
omit hW in
theorem flt_eqB (a b : Flt) : ((((eqB a.k b.k && eqB a.t b.t) && eqB a.v b.v) && eqB a.ps b.ps) && eqB a.ks b.ks) = eqB a b := by
  rw [Bool.eq_iff_iff, eqB_iff]
  cases a; cases b
  simp [eqB_iff, and_assoc]
theorem fsame_kids (a b : List Flt) (ha : a.length ≤ 1073741824) (ih : ∀ x ∈ a, ∀ y, filter_Same_1.f call (tupF x) (tupF y) = some (eqB x y, ())) : slices_EqualFunc_api_Filter_api_Filter_api_Filter_api_Filter.f call (dFs a) (dFs b) = some (eqB a b, ()) := by
  rw [slices_EqualFunc_api_Filter_api_Filter_api_Filter_api_Filter.eq hW, dFs_len, dFs_len]
  by_cases c : (a.length : Int) = b.length
  · have hl : a.length = b.length := by omega
    simp only [c, decide_true, Bool.not_true, cond_false]
    rw [← c]
    have := loop_eq (L := fun i => slices_EqualFunc_api_Filter_api_Filter_api_Filter_api_Filter.l4 call lp (dFs b) (dFs a) (a.length : Int) i) (yes := (true, ())) (no := (false, ())) hl (fun j h => by
      rw [slices_EqualFunc_api_Filter_api_Filter_api_Filter_api_Filter.l4.eq hW]
      rw [decide_eq_true (show (j : Int) < (a.length : Int) by omega), cond_true, ix_flt a j h, ix_flt b j (by omega)]
      simp only [Option.bind_some, dec_flt]
      rw [ih _ (List.getElem_mem h), w64 (x := (j : Int) + 1) (by omega) (by omega)]
      simp only [Option.bind_some]
      cases eqB a[j] (b[j]'(by omega)) <;> rfl) (by
      rw [slices_EqualFunc_api_Filter_api_Filter_api_Filter_api_Filter.l4.eq hW]
      simp only [Bool.cond_decide]
      rw [if_neg (by omega)])
    rw [this]
    cases eqB a b <;> rfl
  · simp only [c, decide_false, Bool.not_false, cond_true]
    rw [len_eqB c]
theorem fsame1_eq : ∀ (n : Nat) (a b : Flt), sF a ≤ n → sF a ≤ 1073741824 → filter_Same_1.f call (tupF a) (tupF b) = some (eqB a b, ()) := by
  intro n
  induction n with
  | zero => intro a b h; have := sF_pos a; omega
  | succ n ih =>
    intro a b hn hs
    have he := sF_eq a
    have hp := sS_len a.ps
    have hk := sFs_len a.ks
    rw [filter_Same_1.eq hW, strs_eq hW _ _ (by omega), fsame_kids hW _ _ (by omega) fun x hx y => ih x y (by have := sFs_mem _ _ hx; omega) (by have := sFs_mem _ _ hx; omega)]
    simp only [andS, Option.bind_some, eqB_dec, flt_eqB]
theorem fsame_eq (a b : Flt) (hs : sF a ≤ 1073741824) : filter_Same.f call (tupF a) (tupF b) = some (eqB a b, ()) := by
  have he := sF_eq a
  have hp := sS_len a.ps
  have hk := sFs_len a.ks
  rw [filter_Same.eq hW, strs_eq hW _ _ (by omega), fsame_kids hW _ _ (by omega) fun x hx y => fsame1_eq hW _ x y (Nat.le_refl _) (by have := sFs_mem _ _ hx; omega)]
  simp only [andS, Option.bind_some, eqB_dec, flt_eqB]
theorem rfsame_eq : ∀ (n : Nat) (a b : Flt), sF a ≤ n → sF a ≤ 1073741824 → brookref1_SameFilter.f call (tupF a) (tupF b) = some (eqB a b, ()) := by
  intro n
  induction n with
  | zero => intro a b h; have := sF_pos a; omega
  | succ n ih =>
    intro a b hn hs
    have he := sF_eq a
    have hp := sS_len a.ps
    have hk := sFs_len a.ks
    rw [brookref1_SameFilter.eq hW, Texts_eq hW _ _ (by omega), dFs_len, dFs_len]
    simp only [orS, Option.bind_some, eqB_dec]
    rw [← flt_eqB a b]
    by_cases c : (a.ks.length : Int) = b.ks.length
    · have hl : a.ks.length = b.ks.length := by omega
      have := loop_eq (L := fun i => brookref1_SameFilter.l4 call lp i (tupF a) (tupF b)) (yes := (true, ())) (no := (false, ())) hl (fun j h => by
        rw [brookref1_SameFilter.l4.eq hW]
        simp only [dFs_len]
        rw [decide_eq_true (show (j : Int) < (a.ks.length : Int) by omega), cond_true, ix_flt a.ks j h, ix_flt b.ks j (by omega)]
        simp only [Option.bind_some, dec_flt]
        rw [ih _ _ (by have := sFs_mem _ _ (List.getElem_mem h); omega) (by have := sFs_mem _ _ (List.getElem_mem h); omega), w64 (x := (j : Int) + 1) (by omega) (by omega)]
        simp only [Option.bind_some]
        cases eqB a.ks[j] (b.ks[j]'(by omega)) <;> rfl) (by
        rw [brookref1_SameFilter.l4.eq hW]
        simp only [dFs_len, Bool.cond_decide]
        rw [if_neg (by omega)])
      rw [this, eqB_iff.2 c]
      cases eqB a.k b.k <;> cases eqB a.t b.t <;> cases eqB a.v b.v <;> cases eqB a.ps b.ps <;> cases eqB a.ks b.ks <;> rfl
    · rw [len_eqB c]
      have : eqB (a.ks.length : Int) (b.ks.length : Int) = false := by
        cases e : eqB (a.ks.length : Int) (b.ks.length : Int) with
        | false => rfl
        | true => exact absurd (eqB_iff.1 e) c
      rw [this]
      cases eqB a.k b.k <;> cases eqB a.t b.t <;> cases eqB a.v b.v <;> cases eqB a.ps b.ps <;> rfl
end
end Go.Proofs.YtcpidokhkcmdfaaGreat.B
