/- Which filters may be, as the reference says it. Conditions: those of each theorem. -/
import Derived.Test.YtcpidokhkcmdfaaGreatTc
namespace Go.Proofs.YtcpidokhkcmdfaaGreat.B
open Go Go.Proofs Go.Proofs.YtcpidokhkcmdfaaGreat.I
set_option linter.unusedVariables false
set_option linter.unusedSimpArgs false
theorem len0' {α : Type} (l : List α) : decide (0 < (l.length : Int)) = !decide ((l.length : Int) = 0) := by
  rw [← decide_not]; exact decide_eq_decide.2 (by omega)
theorem le_not' (a b : Int) : decide (a ≤ b) = !decide (b < a) := by
  rw [← decide_not]; exact decide_eq_decide.2 (by omega)
section
variable {call : Oracle} {lp : Loops} (hW : Fix Tryz.prog hs call lp)
include hW
theorem rparts_loop (f : Flt) (hl : f.ps.length ≤ 1073741824) : brookref1_simple.l15 call lp (f.ps.length : Int) 0 (tupF f) = some (allI (fun j s => decide ((s.length : Int) ≤ 100) && !(decide (s = []) && decide (0 < (j : Int)) && decide ((j : Int) < (f.ps.length : Int) - 1))) 0 f.ps, ()) := by
  have := loop_all (L := fun i => brookref1_simple.l15 call lp (f.ps.length : Int) i (tupF f)) (xs := f.ps) (p := fun j s => decide ((s.length : Int) ≤ 100) && !(decide (s = []) && decide (0 < (j : Int)) && decide ((j : Int) < (f.ps.length : Int) - 1))) (yes := (true, ())) (no := (false, ())) (fun j h => by
    rw [brookref1_simple.l15.eq hW]
    rw [decide_eq_true (show (j : Int) < (f.ps.length : Int) by omega), cond_true, ix_str f.ps j h]
    simp only [Option.bind_some, dec_str, andS, orS, bind_id]
    rw [w64 (x := (j : Int) + 1) (by omega) (by omega), w64 (x := (f.ps.length : Int) - 1) (by omega) (by omega)]
    have e : decide ((f.ps[j].length : Int) ≤ 100) = !decide (100 < (f.ps[j].length : Int)) := le_not' _ _
    rw [e]
    cases decide (100 < (f.ps[j].length : Int)) <;> cases decide (f.ps[j] = []) <;> cases decide (0 < (j : Int)) <;> cases decide ((j : Int) < (f.ps.length : Int) - 1) <;> rfl) (by
    rw [brookref1_simple.l15.eq hW]
    simp only [Bool.cond_decide]
    rw [if_neg (by omega)])
  rw [this]
  cases allI _ 0 f.ps <;> rfl
/-- A filter of one type, by its kind. -/
def simpleB (f : Flt) : Bool :=
  typedB f.t && decide ((f.v.length : Int) ≤ 100) && (if f.k = 4 ∨ f.k = 6 ∨ f.k = 7 then decide ((f.ps.length : Int) = 0) else if f.k = 8 then decide (f.v = []) && decide ((f.ps.length : Int) = 0) else if f.k = 5 then decide (f.v = []) && mayP f.ps else false)
theorem simple_eq (f : Flt) (hs : sF f ≤ 1073741824) : brookref1_simple.f call (tupF f) = some (simpleB f, ()) := by
  have he := sF_eq f
  have hp := sS_len f.ps
  have sub5 : (bif !decide (f.v = []) then some true else some (decide ((f.ps.length : Int) < 2))).bind (fun z4 => (bif z4 then some true else some (decide (8 < (f.ps.length : Int)))).bind fun z5 => (bif z5 then some true else (bif decide ((f.ps.length : Int) = 2) then (ix 1 (dSs f.ps) 0).bind fun e8 => (decs [.str] (sub e8 0 1)).bind fun t9 => some (decide (t9.1 = [])) else some false).bind fun z7 => (bif z7 then (ix 1 (dSs f.ps) 1).bind fun e11 => (decs [.str] (sub e11 0 1)).bind fun t12 => some (decide (t12.1 = [])) else some false).bind fun z10 => some z10).bind fun z6 => (bif z6 then some (false, ()) else brookref1_simple.l15 call lp (f.ps.length : Int) 0 (tupF f))) = some (decide (f.v = []) && mayP f.ps, ()) := by
    rw [rparts_loop hW f (by omega)]
    unfold mayP
    simp only [orS, Option.bind_some, bind_id]
    by_cases c : f.v = []
    · simp only [c, decide_true, Bool.not_true, Bool.false_or, Bool.true_and]
      by_cases a : (f.ps.length : Int) < 2
      · have : ¬ 2 ≤ (f.ps.length : Int) := by omega
        simp [a, this]
      · have a' : 2 ≤ (f.ps.length : Int) := by omega
        by_cases b : 8 < (f.ps.length : Int)
        · have : ¬ (f.ps.length : Int) ≤ 8 := by omega
          simp [b, this]
        · have b' : (f.ps.length : Int) ≤ 8 := by omega
          simp only [a, a', b, b', decide_true, decide_false, Bool.true_and, Bool.false_or, cond_false]
          by_cases c2 : (f.ps.length : Int) = 2
          · obtain ⟨k, t, v, ps, ks⟩ := f
            simp only at *
            match ps, c2 with
            | [s, t], _ =>
              have e0 : ix 1 (dSs [s, t]) 0 = some (dS s) := ix_str [s, t] 0 (by simp)
              have e1 : ix 1 (dSs [s, t]) 1 = some (dS t) := ix_str [s, t] 1 (by simp)
              rw [e0, e1]
              simp only [Option.bind_some, dec_str]
              by_cases e1 : s = []
              · by_cases e2 : t = []
                · simp [e1, e2]
                · simp [e1, e2]
              · simp [e1]
          · simp [c2]
    · simp [c]
  rw [brookref1_simple.eq hW, MayType_eq hW f.t (by omega)]
  simp only [dSs_len, orS, Option.bind_some, bind_id]
  unfold simpleB
  simp only [le_not' (f.v.length : Int) 100]
  cases typedB f.t with
  | false => rfl
  | true =>
    cases hv : decide (100 < (f.v.length : Int)) with
    | true => rfl
    | false =>
      simp only [Bool.not_true, Bool.or_self, cond_false, Bool.not_false, Bool.true_and]
      simp only [orS, Option.bind_some, bind_id] at sub5
      obtain ⟨k, t, v, ps, ks⟩ := f
      simp only at *
      by_cases h4 : k = 4
      · subst h4
        simp only [decide_true, cond_true, Int.reduceEq, decide_false, cond_false, or_self, true_or, or_true, if_true, if_false]
      · by_cases h6 : k = 6
        · subst h6
          simp only [decide_true, cond_true, Int.reduceEq, decide_false, cond_false, or_self, true_or, or_true, if_true, if_false]
        · by_cases h7 : k = 7
          · subst h7
            simp only [decide_true, cond_true, Int.reduceEq, decide_false, cond_false, or_self, true_or, or_true, if_true, if_false]
          · by_cases h8 : k = 8
            · subst h8
              simp only [decide_true, cond_true, Int.reduceEq, decide_false, cond_false, or_self, true_or, or_true, if_true, if_false, andS, Option.bind_some]
            · by_cases h5 : k = 5
              · subst h5
                simp only [decide_true, cond_true, Int.reduceEq, decide_false, cond_false, or_self, true_or, or_true, if_true, if_false]
                exact sub5
              · simp only [h4, h5, h6, h7, h8, decide_false, cond_false, or_self, if_false]
theorem rkids_loop (d : Int) (hd : -1000 ≤ d) (hd2 : d ≤ 1000) (f : Flt) (hl : f.ks.length ≤ 1073741824) (ih : ∀ x ∈ f.ks, brookref1_may.f call (tupF x) (d - 1) = some (mayF x (d - 1), ())) : brookref1_may.l12 call lp d 0 (tupF f) = some (mayFs f.ks (d - 1), ()) := by
  have := loop_all (L := fun i => brookref1_may.l12 call lp d i (tupF f)) (xs := f.ks) (p := fun _ x => mayF x (d - 1)) (yes := (true, ())) (no := (false, ())) (fun j h => by
    rw [brookref1_may.l12.eq hW]
    simp only [Bool.cond_decide, dFs_len]
    rw [if_pos (by omega), ix_flt f.ks j h]
    simp only [Option.bind_some, dec_flt]
    rw [w64 (x := d - 1) (by omega) (by omega), ih _ (List.getElem_mem h), w64 (x := (j : Int) + 1) (by omega) (by omega)]
    simp only [Option.bind_some]
    cases mayF f.ks[j] (d - 1) <;> rfl) (by
    rw [brookref1_may.l12.eq hW]
    simp only [Bool.cond_decide, dFs_len]
    rw [if_neg (by omega)])
  rw [this, allI_all, mayFs_all]
  cases f.ks.all _ <;> rfl
theorem rmay_eq : ∀ (n : Nat) (f : Flt) (d : Int), sF f ≤ n → sF f ≤ 1073741824 → -1000 ≤ d → d ≤ 12 → brookref1_may.f call (tupF f) d = some (mayF f d, ()) := by
  intro n
  induction n with
  | zero => intro f d h; have := sF_pos f; omega
  | succ n ih =>
    intro f d hn hs hd1 hd2
    have he := sF_eq f
    have hp := sS_len f.ps
    have hk := sFs_len f.ks
    have hsim := simple_eq hW f hs
    have hkids : 1 ≤ d → brookref1_may.l12 call lp d 0 (tupF f) = some (mayFs f.ks (d - 1), ()) := fun h => rkids_loop hW d hd1 (by omega) f (by omega) fun x hx => by
      have := sFs_mem _ _ hx
      exact ih x (d - 1) (by omega) (by omega) (by omega) (by omega)
    have hnil : f.ks = [] → brookref1_may.l12 call lp d 0 (tupF f) = some (mayFs f.ks (d - 1), ()) := fun h => rkids_loop hW d hd1 (by omega) f (by omega) fun x hx => by
      rw [h] at hx; cases hx
    have tail : ∀ (b : Bool), (bif (b || (decide (0 < (f.ks.length : Int)) && decide (d < 1))) then some (false, ()) else brookref1_may.l12 call lp d 0 (tupF f)) = some (!b && (decide ((f.ks.length : Int) = 0) || decide (1 ≤ d)) && mayFs f.ks (d - 1), ()) := by
      intro b
      cases b with
      | true => rfl
      | false =>
        simp only [Bool.false_or, len0', Bool.not_false, Bool.true_and]
        by_cases c : f.ks = []
        · rw [hnil c]
          simp [c]
        · have c1 : ¬ (f.ks.length : Int) = 0 := by
            intro h; exact c (List.eq_nil_of_length_eq_zero (by omega))
          by_cases c2 : d < 1
          · have : ¬ 1 ≤ d := by omega
            simp [c, c1, c2, this]
          · have : 1 ≤ d := by omega
            rw [hkids this]
            simp [c, c1, c2, this]
    rw [brookref1_may.eq hW]
    simp only [dSs_len, dFs_len]
    rw [hsim]
    simp only [andS, orS, Option.bind_some, bind_id]
    unfold simpleB
    obtain ⟨k, t, v, ps, ks⟩ := f
    simp only at *
    simp only [mayF]
    have hv0 : decide (v = []) = true → decide ((v.length : Int) ≤ 100) = true := fun h => by
      have := of_decide_eq_true h; subst this; rfl
    by_cases h1 : k = 1
    · subst h1
      simp only [decide_true, cond_true, Int.reduceEq, decide_false, cond_false, true_or, if_true, Bool.or_false]
      rw [tail]
      simp only [Bool.not_or, Bool.not_not, le_not' (ks.length : Int) 40, len0', Bool.false_and, Bool.not_false, Bool.and_true]
    · by_cases h2 : k = 2
      · subst h2
        simp only [decide_true, cond_true, Int.reduceEq, decide_false, cond_false, or_true, if_true, Bool.or_false]
        rw [tail]
        simp only [Bool.not_or, Bool.not_not, le_not' (ks.length : Int) 40, len0', Bool.false_and, Bool.not_false, Bool.and_true]
      · by_cases h3 : k = 3
        · subst h3
          simp only [decide_true, cond_true, Int.reduceEq, decide_false, cond_false, or_self, if_true, if_false]
          rw [tail]
          simp only [Bool.not_or, Bool.not_not, len0']
          congr 2
          by_cases c : (ks.length : Int) = 1
          · have : ¬ (1 : Int) < 1 := by omega
            simp [c]
          · simp [c]
        · simp only [h1, h2, h3, decide_false, cond_false, or_self, if_false]
          by_cases h4 : k = 4
          · subst h4
            simp only [Int.reduceEq, or_self, true_or, or_true, if_true, if_false]
            cases decide ((ks.length : Int) = 0) <;> cases typedB t <;> cases decide ((ps.length : Int) = 0) <;> cases decide ((v.length : Int) ≤ 100) <;> rfl
          · by_cases h6 : k = 6
            · subst h6
              simp only [Int.reduceEq, or_self, true_or, or_true, if_true, if_false]
              cases decide ((ks.length : Int) = 0) <;> cases typedB t <;> cases decide ((ps.length : Int) = 0) <;> cases decide ((v.length : Int) ≤ 100) <;> rfl
            · by_cases h7 : k = 7
              · subst h7
                simp only [Int.reduceEq, or_self, true_or, or_true, if_true, if_false]
                cases decide ((ks.length : Int) = 0) <;> cases typedB t <;> cases decide ((ps.length : Int) = 0) <;> cases decide ((v.length : Int) ≤ 100) <;> rfl
              · by_cases h5 : k = 5
                · subst h5
                  simp only [Int.reduceEq, or_self, true_or, or_true, if_true, if_false]
                  cases hv : decide (v = []) with
                  | false => cases decide ((ks.length : Int) = 0) <;> cases typedB t <;> cases decide ((v.length : Int) ≤ 100) <;> rfl
                  | true => rw [hv0 hv]; cases decide ((ks.length : Int) = 0) <;> cases typedB t <;> cases mayP ps <;> rfl
                · by_cases h8 : k = 8
                  · subst h8
                    simp only [Int.reduceEq, or_self, true_or, or_true, if_true, if_false]
                    cases hv : decide (v = []) with
                    | false => cases decide ((ks.length : Int) = 0) <;> cases typedB t <;> cases decide ((v.length : Int) ≤ 100) <;> rfl
                    | true => rw [hv0 hv]; cases decide ((ks.length : Int) = 0) <;> cases typedB t <;> cases decide ((ps.length : Int) = 0) <;> rfl
                  · simp only [h4, h5, h6, h7, h8, or_self, if_false]
                    cases decide ((ks.length : Int) = 0) <;> cases typedB t <;> cases decide ((v.length : Int) ≤ 100) <;> rfl
theorem MayFilter_f (f : Flt) (hs : sF f ≤ 1073741824) : brookref1_MayFilter.f call (tupF f) = some (mayF f 12, ()) := by
  rw [brookref1_MayFilter.eq hW, rmay_eq hW _ f 12 (Nat.le_refl _) hs (by omega) (by omega)]; rfl
end
end Go.Proofs.YtcpidokhkcmdfaaGreat.B
