/- Filters by numbers: they come, and are not great. Conditions: those of each theorem. -/
import Derived.Test.YtejgmifipdcneaaGreatMa
namespace Go.Proofs.YtejgmifipdcneaaGreat.B
open Go Go.Proofs Go.Proofs.YtejgmifipdcneaaGreat.I
set_option linter.unusedVariables false
set_option linter.unusedSimpArgs false
set_option maxRecDepth 100000
def BB : Nat → Nat
  | 0 => 200
  | n + 1 => 3 * BB n + 200
theorem BB_up (n : Nat) : 200 ≤ BB n ∧ BB n ≤ BB (n + 1) := by
  induction n with
  | zero => decide
  | succ n ih => simp only [BB] at ih ⊢; omega
theorem BB_mono {n m : Nat} (h : n ≤ m) : BB n ≤ BB m := by
  induction h with
  | refl => exact Nat.le_refl _
  | step _ ih => exact Nat.le_trans ih (BB_up _).2
theorem BB10 : BB 10 = 17714600 := rfl
theorem sFs_app (a : List Flt) (f : Flt) : sFs (a ++ [f]) = sFs a + sF f := by
  induction a with
  | nil => simp [sFs]
  | cons x r ih => simp only [List.cons_append, sFs, ih]; omega
section
variable {call : Oracle} {lp : Loops} (hW : Fix Tryz.prog hs call lp)
include hW
theorem mk6_loop {n : Nat} {s : List UInt8} (ih : ∀ l : List Int, l.length ≤ n → bytesI l → Yes (brooklaw6_Make.f call (rowI l) s) fun r => ∃ f : Flt, r = (tupF f, ()) ∧ sF f ≤ BB n) {l : List Int} (hl : l.length ≤ n + 1) (h1 : 1 ≤ l.length) (hn : n ≤ 10) (hb : bytesI l) {x5 : Int} (hx : By x5) (K : Int) (y : Int × List UInt8 × List UInt8 × List (List D) × List (List D) × Unit) :
    ∀ (m : Nat) (x9 : Int) (acc : List Flt), 1 ≤ x9 → x9 ≤ 4 → (4 - x9).toNat ≤ m → (acc.length : Int) = x9 - 1 → sFs acc ≤ acc.length * BB n → Yes (brooklaw6_Make.l14 call lp (rowI l) s x5 x9 y (K, [], [], [], ()) (dFs acc)) fun r => ∃ f : Flt, r = (tupF f, ()) ∧ sF f ≤ BB (n + 1) := by
  intro m
  induction m with
  | zero =>
    intro x9 acc h2 h3 hm ha hs
    have hx9 : x9 = 4 := by omega
    rw [brooklaw6_Make.l14.eq hW, rowI_len]
    have ht := tmr (tdr (w64r (tdr hx (c := 24) (by omega))) (c := 1) (by omega)).1 (c := 4) (by omega)
    have ht' := tmr (w64r (tdr hx (c := 24) (by omega))).1 (c := 4) (by omega)
    refine Yes.bind (P := fun z => z = false) (.cond (fun _ => .some (decide_eq_false (by omega))) fun _ => .some rfl) fun z hz => ?_
    subst hz
    rw [cond_false]
    have hB := BB_up n
    have hal : acc.length ≤ 3 := by omega
    have hmul : acc.length * BB n ≤ 3 * BB n := Nat.mul_le_mul_right _ hal
    refine .cond (fun _ => ?_) fun _ => .some ⟨⟨K, [], [], [], acc⟩, rfl, ?_⟩
    · refine Yes.bind (yes_subz hb (a := 1) (by omega) (by omega) (by omega)) fun r ⟨l', hr, hb', hl'⟩ => ?_
      subst hr
      refine Yes.bind (ih l' (by omega) hb') fun r ⟨f, hr, hf⟩ => ?_
      subst hr
      refine .some ⟨⟨K, [], [], [], [f]⟩, (by simp only [tupF, dFs, dF_eq]; rfl), ?_⟩
      simp only [sF, sFs, sS, BB, List.length_nil]; omega
    · simp only [sF, sFs, sS, BB, List.length_nil]; omega
  | succ m ihm =>
    intro x9 acc h2 h3 hm ha hs
    rw [brooklaw6_Make.l14.eq hW, rowI_len]
    have ht' := tmr (w64r (tdr hx (c := 24) (by omega))).1 (c := 4) (by omega)
    have hB := BB_up n
    have hal : acc.length ≤ 3 := by omega
    have hmul : acc.length * BB n ≤ 3 * BB n := Nat.mul_le_mul_right _ hal
    refine Yes.bind (P := fun z => z = true → x9 < l.length ∧ x9 ≤ 3) (.cond (fun hc => .some fun hz => ⟨of_decide_eq_true hc, by have := of_decide_eq_true hz; omega⟩) fun _ => .some fun h => by cases h) fun z hz => ?_
    refine .cond (fun hc => ?_) fun _ => .cond (fun _ => ?_) fun _ => .some ⟨⟨K, [], [], [], acc⟩, rfl, ?_⟩
    · obtain ⟨g1, g2⟩ := hz hc
      have h60 := w64r (tdr hx (c := 60) (by omega))
      have e1 : IntKind.wrap .i64 (x9 + IntKind.wrap .i64 (Int.tdiv x5 60)) = x9 + IntKind.wrap .i64 (Int.tdiv x5 60) := w64 (by have := h60.1; omega) (by have := h60.2; omega)
      have e2 : IntKind.wrap .i64 (x9 + IntKind.wrap .i64 (Int.tdiv x5 60) + 1) = x9 + IntKind.wrap .i64 (Int.tdiv x5 60) + 1 := w64 (by have := h60.1; omega) (by have := h60.2; omega)
      rw [e1, e2]
      have hmn : x9 ≤ mnv (l.length : Int) (x9 + IntKind.wrap .i64 (Int.tdiv x5 60) + 1) ∧ mnv (l.length : Int) (x9 + IntKind.wrap .i64 (Int.tdiv x5 60) + 1) ≤ l.length := by
        have := h60.1
        unfold mnv; split <;> omega
      refine Yes.bind (yes_subz hb (a := x9) (by omega) hmn.1 hmn.2) fun r ⟨l', hr, hb', hl'⟩ => ?_
      subst hr
      refine Yes.bind (ih l' (by omega) hb') fun r ⟨f, hr, hf⟩ => ?_
      subst hr
      have ha' := app_flt acc f (by omega)
      refine Yes.bind (P := fun r => r = dFs (acc ++ [f])) ⟨_, ha', rfl⟩ fun r hr => ?_
      subst hr
      rw [w64 (x := x9 + 1) (by omega) (by omega)]
      refine ihm (x9 + 1) (acc ++ [f]) (by omega) (by omega) (by omega) (by rw [List.length_append]; simp; omega) ?_
      rw [sFs_app, List.length_append, List.length_singleton, Nat.add_mul]
      omega
    · refine Yes.bind (yes_subz hb (a := 1) (by omega) (by omega) (by omega)) fun r ⟨l', hr, hb', hl'⟩ => ?_
      subst hr
      refine Yes.bind (ih l' (by omega) hb') fun r ⟨f, hr, hf⟩ => ?_
      subst hr
      refine .some ⟨⟨K, [], [], [], [f]⟩, (by simp only [tupF, dFs, dF_eq]; rfl), ?_⟩
      simp only [sF, sFs, sS, BB, List.length_nil]; omega
    · simp only [sF, sFs, sS, BB, List.length_nil]; omega
theorem mk6 (s : List UInt8) (hs : s.length ≤ 60) : ∀ (n : Nat) (l : List Int), l.length ≤ n → n ≤ 10 → bytesI l → Yes (brooklaw6_Make.f call (rowI l) s) fun r => ∃ f : Flt, r = (tupF f, ()) ∧ sF f ≤ BB n := by
  intro n
  induction n with
  | zero =>
    intro l hl hn hb
    rw [brooklaw6_Make.eq hW, rowI_len, decide_eq_true (show (l.length : Int) = 0 by omega), cond_true]
    exact .some ⟨⟨8, [99, 110], [], [], []⟩, rfl, by simp [sF, sFs, sS, BB]⟩
  | succ n ih =>
    intro l hl hn hb
    have hB := BB_up n
    rw [brooklaw6_Make.eq hW, rowI_len]
    refine .cond (fun _ => .some ⟨⟨8, [99, 110], [], [], []⟩, rfl, by simp only [sF, sFs, sS, BB, List.length_nil, List.length_cons]; omega⟩) fun hc => ?_
    have hc := of_decide_eq_false hc
    refine yes_byte hb ⟨by omega, by omega⟩ fun v hv => ?_
    have hv64 := w64r hv
    simp only []
    generalize IntKind.wrap .i64 v = v at hv64 ⊢
    refine yes_row (p := pS 60) ?_ ?_ fun e he => yes_str he fun t5 ht5 => ?_
    · repeat' (first | exact Tab.nil | (apply Tab.cons; exact .mk (by simp)))
    · exact tmr (w64r (tdr hv64 (by omega))).1 (by simp)
    refine yes_row (p := pS 60) ?_ ?_ fun e he => yes_str he fun t8 ht8 => ?_
    · repeat' (first | exact Tab.nil | (apply Tab.cons; exact .mk (by first | exact hs | simp)))
    · exact tmr (w64r (tdr hv64 (by omega))).1 (by simp)
    simp only []
    generalize IntKind.wrap .i64 (1 + Int.tmod v 8) = K
    have loop : Yes (brooklaw6_Make.l14 call lp (rowI l) s v 1 (0, [], [], [], [], ()) (K, [], [], [], ()) []) fun r => ∃ f : Flt, r = (tupF f, ()) ∧ sF f ≤ BB (n + 1) :=
      mk6_loop hW (fun l h1 h2 => ih l h1 (by omega) h2) hl (by omega) (by omega) hb hv64 K _ 3 1 [] (by omega) (by omega) (by omega) (by simp) (by simp [sFs])
    have parts : Yes ((cat s [101]).bind fun t9 => (at_ [[D.list [[D.str [110]], [D.str []]]], [D.list [[D.str []], [D.str [49]]]], [D.list [[D.str []], [D.str t9], [D.str []]]], [D.list [[D.str [68]], [D.str [32]], [D.str [53]]]]] (Int.tmod (IntKind.wrap .i64 (Int.tdiv v 48)) 4)).bind fun j10 => ([[D.list [[D.str [110]], [D.str []]]], [D.list [[D.str []], [D.str [49]]]], [D.list [[D.str []], [D.str t9], [D.str []]]], [D.list [[D.str [68]], [D.str [32]], [D.str [53]]]]][j10]?).bind fun e11 => (decs [.list] (sub e11 0 1)).bind fun t12 => some (((K, t5, [], t12.1, [], ()) : FltT), ())) fun r => ∃ f : Flt, r = (tupF f, ()) ∧ sF f ≤ BB (n + 1) := by
      refine Yes.bind (yes_cat (by omega) (by simp)) fun t9 ht9 => ?_
      simp only [List.length_cons, List.length_nil] at ht9
      refine yes_row (p := pL 70) ?_ ?_ fun e he => yes_list he fun ps hps => ?_
      · exact .cons (.mk [[110], []] (by simp [sS])) (.cons (.mk [[], [49]] (by simp [sS])) (.cons (.mk [[], t9, []] (by simp only [sS, List.length_nil]; omega)) (.cons (.mk [[68], [32], [53]] (by simp [sS])) .nil)))
      · exact tmr (w64r (tdr hv64 (by omega))).1 (by simp)
      · exact .some ⟨⟨K, t5, [], ps, []⟩, rfl, by simp only [sF, sFs, BB, List.length_nil]; omega⟩
    have has : Yes (some (((K, t5, [], [], [], ()) : FltT), ())) fun r => ∃ f : Flt, r = (tupF f, ()) ∧ sF f ≤ BB (n + 1) := .some ⟨⟨K, t5, [], [], []⟩, rfl, by simp only [sF, sFs, sS, BB, List.length_nil]; omega⟩
    have val : Yes (some (((K, t5, t8, [], [], ()) : FltT), ())) fun r => ∃ f : Flt, r = (tupF f, ()) ∧ sF f ≤ BB (n + 1) := .some ⟨⟨K, t5, t8, [], []⟩, rfl, by simp only [sF, sFs, sS, BB, List.length_nil]; omega⟩
    have rest := fun (b1 b2 : Bool) => Yes.cond (b := b1) (Q := fun r : FltT × Unit => ∃ f : Flt, r = (tupF f, ()) ∧ sF f ≤ BB (n + 1)) (fun _ => has) (fun _ => Yes.cond (b := b2) (fun _ => parts) fun _ => val)
    exact .cond (fun _ => .cond (fun _ => loop) fun _ => rest _ _) fun _ => .cond (fun _ => .cond (fun _ => loop) fun _ => rest _ _) fun _ => .cond (fun _ => loop) fun _ => rest _ _
end
end Go.Proofs.YtejgmifipdcneaaGreat.B
