/- Which filters may be, whole. Conditions: those of each theorem. -/
import Derived.Test.YtcpidokhkcmdfaaGreatTb
namespace Go.Proofs.YtcpidokhkcmdfaaGreat.B
open Go Go.Proofs Go.Proofs.YtcpidokhkcmdfaaGreat.I
set_option linter.unusedVariables false
set_option linter.unusedSimpArgs false
section
variable {call : Oracle} {lp : Loops} (hW : Fix Tryz.prog hs call lp)
include hW
theorem parts_loop (ps : List (List UInt8)) (hl : ps.length ≤ 1073741824) : filter_mayParts.l4 call lp (dSs ps) (dSs ps) (ps.length : Int) 0 = some (allI (fun j s => decide ((s.length : Int) ≤ 100) && !(decide (s = []) && decide (0 < (j : Int)) && decide ((j : Int) < (ps.length : Int) - 1))) 0 ps, ()) := by
  have := loop_all (L := fun i => filter_mayParts.l4 call lp (dSs ps) (dSs ps) (ps.length : Int) i) (xs := ps) (p := fun j s => decide ((s.length : Int) ≤ 100) && !(decide (s = []) && decide (0 < (j : Int)) && decide ((j : Int) < (ps.length : Int) - 1))) (yes := (true, ())) (no := (false, ())) (fun j h => by
    rw [filter_mayParts.l4.eq hW]
    rw [decide_eq_true (show (j : Int) < (ps.length : Int) by omega), cond_true, ix_str ps j h]
    simp only [Option.bind_some, dec_str, andS, orS, bind_id]
    rw [w64 (x := (j : Int) + 1) (by omega) (by omega), dSs_len, w64 (x := (ps.length : Int) - 1) (by omega) (by omega)]
    have e : decide ((ps[j].length : Int) ≤ 100) = !decide (100 < (ps[j].length : Int)) := by
      rw [← decide_not]; exact decide_eq_decide.2 (by omega)
    rw [e]
    cases decide (100 < (ps[j].length : Int)) <;> cases decide (ps[j] = []) <;> cases decide (0 < (j : Int)) <;> cases decide ((j : Int) < (ps.length : Int) - 1) <;> rfl) (by
    rw [filter_mayParts.l4.eq hW]
    simp only [Bool.cond_decide]
    rw [if_neg (by omega)])
  rw [this]
  cases allI _ 0 ps <;> rfl
theorem mayParts_eq (ps : List (List UInt8)) (hl : sS ps ≤ 1073741824) : filter_mayParts.f call (dSs ps) = some (mayP ps, ()) := by
  have hln := sS_len ps
  rw [filter_mayParts.eq hW, dSs_len]
  unfold mayP
  simp only [Bool.cond_decide]
  by_cases a : (ps.length : Int) < 2
  · have : ¬ 2 ≤ (ps.length : Int) := by omega
    simp [a, this]
  · have a' : 2 ≤ (ps.length : Int) := by omega
    rw [if_neg a]
    by_cases b : 8 < (ps.length : Int)
    · have : ¬ (ps.length : Int) ≤ 8 := by omega
      simp [b, this]
    · have b' : (ps.length : Int) ≤ 8 := by omega
      rw [if_neg b]
      simp only [a', b', decide_true, Bool.true_and]
      by_cases c : (ps.length : Int) = 2
      · rw [if_pos c]
        simp only [c, decide_true, Bool.true_and]
        match ps, c with
        | [s, t], _ =>
          have h1 := sS_mem [s, t] s (by simp)
          have h2 := sS_mem [s, t] t (by simp)
          have e0 : ix 1 (dSs [s, t]) 0 = some (dS s) := ix_str [s, t] 0 (by simp)
          have e1 : ix 1 (dSs [s, t]) 1 = some (dS t) := ix_str [s, t] 1 (by simp)
          rw [e0, e1]
          simp only [Option.bind_some, dec_str]
          rw [cat_eq (by omega)]
          simp only [Option.bind_some]
          by_cases e : s ++ t = []
          · rw [if_pos e]
            obtain ⟨rfl, rfl⟩ := List.append_eq_nil_iff.1 e
            rfl
          · rw [if_neg e]
            have : ([s, t].all fun s => decide (s = [])) = false := by
              rw [List.append_eq_nil_iff] at e
              by_cases e1 : s = []
              · have : ¬ t = [] := fun h => e ⟨e1, h⟩
                simp [this]
              · simp [e1]
            rw [this, Bool.not_false, Bool.true_and]
            exact parts_loop hW [s, t] (by simp)
      · rw [if_neg c]
        simp only [c, decide_false, Bool.false_and, Bool.not_false, Bool.true_and]
        exact parts_loop hW ps (by omega)
theorem kids_loop (d : Int) (hd : -1000 ≤ d) (hd2 : d ≤ 1000) (ks : List Flt) (hl : ks.length ≤ 1073741824) (ih : ∀ x ∈ ks, filter_may.f call (tupF x) (d - 1) = some (mayF x (d - 1), ())) : slices_ContainsFunc_api_Filter_api_Filter.f call (dFs ks) (d, ()) = some (!mayFs ks (d - 1), ((d, ()), ())) := by
  rw [slices_ContainsFunc_api_Filter_api_Filter.eq hW, slices_IndexFunc_api_Filter_api_Filter.eq hW, dFs_len]
  obtain ⟨r, h1, h2⟩ := loop_idx (L := fun i => slices_IndexFunc_api_Filter_api_Filter.l2 call lp (dFs ks) (ks.length : Int) i (d, ())) (xs := ks) (q := fun x => !mayF x (d - 1)) (mk := fun i => (i, ((d, ()), ()))) (fun j h => by
    rw [slices_IndexFunc_api_Filter_api_Filter.l2.eq hW]
    simp only [Bool.cond_decide]
    rw [if_pos (by omega), ix_flt ks j h]
    simp only [Option.bind_some, dec_flt, filter_may_1.eq hW]
    rw [w64 (x := d - 1) (by omega) (by omega), ih _ (List.getElem_mem h), w64 (x := (j : Int) + 1) (by omega) (by omega)]
    simp only [Option.bind_some]
    cases mayF ks[j] (d - 1) <;> rfl) (by
    rw [slices_IndexFunc_api_Filter_api_Filter.l2.eq hW]
    simp only [Bool.cond_decide]
    rw [if_neg (by omega)])
  rw [h1]
  simp only [Option.bind_some, h2]
  rw [mayFs_all, List.not_all_eq_any_not]
omit hW in
theorem len0 {α : Type} (l : List α) : decide (0 < (l.length : Int)) = !decide ((l.length : Int) = 0) := by
  rw [← decide_not]; exact decide_eq_decide.2 (by omega)
omit hW in
theorem le_not (a b : Int) : decide (a ≤ b) = !decide (b < a) := by
  rw [← decide_not]; exact decide_eq_decide.2 (by omega)
theorem may_eq : ∀ (n : Nat) (f : Flt) (d : Int), sF f ≤ n → sF f ≤ 1073741824 → -1000 ≤ d → d ≤ 12 → filter_may.f call (tupF f) d = some (mayF f d, ()) := by
  intro n
  induction n with
  | zero => intro f d h; have := sF_pos f; omega
  | succ n ih =>
    intro f d hn hs hd1 hd2
    have he := sF_eq f
    have hp := sS_len f.ps
    have hk := sFs_len f.ks
    have ht := typed_eq hW f.t (by omega)
    have hmp := mayParts_eq hW f.ps (by omega)
    have hkids : 1 ≤ d → slices_ContainsFunc_api_Filter_api_Filter.f call (dFs f.ks) (d, ()) = some (!mayFs f.ks (d - 1), ((d, ()), ())) := fun h => kids_loop hW d hd1 (by omega) f.ks (by omega) fun x hx => by
      have := sFs_mem _ _ hx
      exact ih x (d - 1) (by omega) (by omega) (by omega) (by omega)
    have hnil : f.ks = [] → slices_ContainsFunc_api_Filter_api_Filter.f call (dFs f.ks) (d, ()) = some (!mayFs f.ks (d - 1), ((d, ()), ())) := fun h => kids_loop hW d hd1 (by omega) f.ks (by omega) fun x hx => by
      rw [h] at hx; cases hx
    -- what stands behind the parts
    have tail : ∀ (b : Bool), (bif b then some (false, ()) else (bif (decide (0 < (f.ks.length : Int)) && decide (d < 1)) then some (false, ()) else (slices_ContainsFunc_api_Filter_api_Filter.f call (dFs f.ks) (d, ())).bind fun t7 => some (!t7.1, ()))) = some (!b && (decide ((f.ks.length : Int) = 0) || decide (1 ≤ d)) && mayFs f.ks (d - 1), ()) := by
      intro b
      cases b with
      | true => rfl
      | false =>
        simp only [cond_false, andS, Option.bind_some, len0, Bool.not_false, Bool.true_and]
        by_cases c : f.ks = []
        · rw [hnil c]
          simp [c]
        · have c1 : ¬ (f.ks.length : Int) = 0 := by
            intro h; exact c (List.eq_nil_of_length_eq_zero (by omega))
          by_cases c2 : d < 1
          · have : ¬ 1 ≤ d := by omega
            simp [c, c1, c2, this]
          · have : 1 ≤ d := by omega
            rw [hkids this]
            simp [c, c1, c2, this]
    rw [filter_may.eq hW]
    simp only [dSs_len, dFs_len]
    rw [ht]
    simp only [andS, orS, Option.bind_some, bind_id, hmp]
    obtain ⟨k, t, v, ps, ks⟩ := f
    simp only at *
    simp only [mayF]
    by_cases h1 : k = 1
    · subst h1
      simp only [decide_true, cond_true, Int.reduceEq, decide_false, cond_false, true_or, if_true]
      rw [tail]
      simp only [Bool.not_or, Bool.not_not, le_not (ks.length : Int) 40]
    · by_cases h2 : k = 2
      · subst h2
        simp only [decide_true, cond_true, Int.reduceEq, decide_false, cond_false, or_true, if_true]
        rw [tail]
        simp only [Bool.not_or, Bool.not_not, le_not (ks.length : Int) 40]
      · by_cases h3 : k = 3
        · subst h3
          simp only [decide_true, cond_true, Int.reduceEq, decide_false, cond_false, or_self, if_true, if_false]
          rw [tail]
          simp only [Bool.not_or, Bool.not_not]
        · by_cases h4 : k = 4
          · subst h4
            simp only [decide_true, cond_true, Int.reduceEq, decide_false, cond_false, or_self, true_or, or_true, if_true, if_false]
          · by_cases h6 : k = 6
            · subst h6
              simp only [decide_true, cond_true, Int.reduceEq, decide_false, cond_false, or_self, true_or, or_true, if_true, if_false]
            · by_cases h7 : k = 7
              · subst h7
                simp only [decide_true, cond_true, Int.reduceEq, decide_false, cond_false, or_self, true_or, or_true, if_true, if_false]
              · by_cases h5 : k = 5
                · subst h5
                  simp only [decide_true, cond_true, Int.reduceEq, decide_false, cond_false, or_self, true_or, or_true, if_true, if_false]
                · by_cases h8 : k = 8
                  · subst h8
                    simp only [decide_true, cond_true, Int.reduceEq, decide_false, cond_false, or_self, true_or, or_true, if_true, if_false]
                  · simp only [h1, h2, h3, h4, h5, h6, h7, h8, decide_false, cond_false, or_self, if_false]
theorem May_f (f : Flt) (hs : sF f ≤ 1073741824) : filter_May.f call (tupF f) = some (mayF f 12, ()) := by
  rw [filter_May.eq hW, may_eq hW _ f 12 (Nat.le_refl _) hs (by omega) (by omega)]; rfl
end
end Go.Proofs.YtcpidokhkcmdfaaGreat.B
