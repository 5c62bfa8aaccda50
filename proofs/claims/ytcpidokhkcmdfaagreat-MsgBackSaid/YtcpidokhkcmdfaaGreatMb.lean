/- Filters by numbers: they come, and are not great. Conditions: those of each theorem. -/
import Derived.Test.YtcpidokhkcmdfaaGreatMa
namespace Go.Proofs.YtcpidokhkcmdfaaGreat.B
open Go Go.Proofs Go.Proofs.YtcpidokhkcmdfaaGreat.I
set_option linter.unusedVariables false
set_option linter.unusedSimpArgs false
set_option maxRecDepth 100000
/-- How great a filter of so many numbers is, at most. -/
def VV : Nat → Nat
  | 0 => 100
  | 1 => 200
  | 2 => 300
  | 3 => 600
  | 4 => 1200
  | 5 => 2200
  | n + 6 => 6700 + 100 * n
def KS (N : Nat) : Nat → Nat
  | 0 => 0
  | j + 1 => KS N j + VV (min 5 (N - (j + 1)))
theorem VV_sub : ∀ n : Nat, n < 11 → ∀ m : Nat, m < 11 → m ≤ n → VV m ≤ VV n := by decide
theorem KS_le : ∀ N : Nat, N < 11 → ∀ j : Nat, j < 4 → j + 1 ≤ N → 100 + KS N j ≤ VV N := by decide
theorem VV_not : ∀ N : Nat, N < 10 → 100 + VV N ≤ VV (N + 1) := by decide
theorem VV_lo : ∀ N : Nat, N < 11 → 100 ≤ VV N ∧ VV N ≤ 7100 := by decide
theorem sFs_app (a : List Flt) (f : Flt) : sFs (a ++ [f]) = sFs a + sF f := by
  induction a with
  | nil => simp [sFs]
  | cons x r ih => simp only [List.cons_append, sFs, ih]; omega
section
variable {call : Oracle} {lp : Loops} (hW : Fix Tryz.prog hs call lp)
include hW
theorem mk6_loop {s : List UInt8} {l : List Int} (ih : ∀ l' : List Int, l'.length < l.length → bytesI l' → Yes (brooklaw6_Make.f call (rowI l') s) fun r => ∃ f : Flt, r = (tupF f, ()) ∧ sF f ≤ VV l'.length) (h1 : 1 ≤ l.length) (hn : l.length ≤ 10) (hb : bytesI l) {x5 : Int} (hx : By x5) (K : Int) (y : Int × List UInt8 × List UInt8 × List (List D) × List (List D) × Unit) :
    ∀ (m : Nat) (x9 : Int) (acc : List Flt), 1 ≤ x9 → x9 ≤ 4 → x9 ≤ l.length → (4 - x9).toNat ≤ m → (acc.length : Int) = x9 - 1 → sFs acc ≤ KS l.length acc.length → Yes (brooklaw6_Make.l14 call lp (rowI l) s x5 x9 y (K, [], [], [], ()) (dFs acc)) fun r => ∃ f : Flt, r = (tupF f, ()) ∧ sF f ≤ VV l.length := by
  intro m
  have ht' := tmr (w64r (tdr hx (c := 24) (by omega))).1 (c := 4) (by omega)
  have fin : ∀ acc : List Flt, acc.length ≤ 3 → acc.length + 1 ≤ l.length → sFs acc ≤ KS l.length acc.length → Yes (bif decide (K = 3) then (subz 1 (rowI l) 1 (l.length : Int)).bind fun t5 => (brooklaw6_Make.f call t5 s).bind fun t6 => some (((K, [], [], [], [[D.int .i64 t6.1.1, D.str t6.1.2.1, D.str t6.1.2.2.1, D.list t6.1.2.2.2.1, D.list t6.1.2.2.2.2.1]], ()) : FltT), ()) else some ((K, [], [], [], dFs acc, ()), ())) fun r => ∃ f : Flt, r = (tupF f, ()) ∧ sF f ≤ VV l.length := by
    intro acc ha hal hs
    refine .cond (fun _ => ?_) fun _ => .some ⟨⟨K, [], [], [], acc⟩, rfl, ?_⟩
    · refine Yes.bind (yes_subz hb (a := 1) (by omega) (by omega) (by omega)) fun r ⟨l', hr, hb', hl'⟩ => ?_
      subst hr
      refine Yes.bind (ih l' (by omega) hb') fun r ⟨f, hr, hf⟩ => ?_
      subst hr
      have e : l.length = l'.length + 1 := by omega
      have hv := VV_not l'.length (by omega)
      refine .some ⟨⟨K, [], [], [], [f]⟩, (by simp only [tupF, dFs, dF_eq]; rfl), ?_⟩
      rw [e]
      simp only [sF, sFs, sS, List.length_nil]; omega
    · have := KS_le l.length (by omega) acc.length (by omega) hal
      simp only [sF, sS, List.length_nil]; omega
  induction m with
  | zero =>
    intro x9 acc h2 h3 h4 hm ha hs
    have hx9 : x9 = 4 := by omega
    rw [brooklaw6_Make.l14.eq hW, rowI_len]
    refine Yes.bind (P := fun z => z = false) (.cond (fun _ => .some (decide_eq_false (by omega))) fun _ => .some rfl) fun z hz => ?_
    subst hz
    rw [cond_false]
    exact fin acc (by omega) (by omega) hs
  | succ m ihm =>
    intro x9 acc h2 h3 h4 hm ha hs
    rw [brooklaw6_Make.l14.eq hW, rowI_len]
    refine Yes.bind (P := fun z => z = true → x9 < l.length ∧ x9 ≤ 3) (.cond (fun hc => .some fun hz => ⟨of_decide_eq_true hc, by have := of_decide_eq_true hz; omega⟩) fun _ => .some fun h => by cases h) fun z hz => ?_
    refine .cond (fun hc => ?_) fun _ => fin acc (by omega) (by omega) hs
    obtain ⟨g1, g2⟩ := hz hc
    have h5b := tdr hx (c := 60) (by omega)
    have h60 := w64r h5b
    have hle : IntKind.wrap .i64 (Int.tdiv x5 60) ≤ 4 := by
      have := hx.1; have := hx.2
      rw [w64 (by have := h5b.1; omega) (by have := h5b.2; omega), Int.tdiv_eq_ediv_of_nonneg hx.1]
      omega
    have e1 : IntKind.wrap .i64 (x9 + IntKind.wrap .i64 (Int.tdiv x5 60)) = x9 + IntKind.wrap .i64 (Int.tdiv x5 60) := w64 (by have := h60.1; omega) (by have := h60.2; omega)
    have e2 : IntKind.wrap .i64 (x9 + IntKind.wrap .i64 (Int.tdiv x5 60) + 1) = x9 + IntKind.wrap .i64 (Int.tdiv x5 60) + 1 := w64 (by have := h60.1; omega) (by have := h60.2; omega)
    rw [e1, e2]
    have h600 := h60.1
    generalize IntKind.wrap .i64 (Int.tdiv x5 60) = q at hle h600
    have hmn : x9 ≤ mnv (l.length : Int) (x9 + q + 1) ∧ mnv (l.length : Int) (x9 + q + 1) ≤ l.length ∧ mnv (l.length : Int) (x9 + q + 1) ≤ x9 + 5 := by
      unfold mnv; split <;> omega
    refine Yes.bind (yes_subz hb (a := x9) (by omega) hmn.1 hmn.2.1) fun r ⟨l', hr, hb', hl'⟩ => ?_
    subst hr
    refine Yes.bind (ih l' (by omega) hb') fun r ⟨f, hr, hf⟩ => ?_
    subst hr
    refine Yes.bind (P := fun r => r = dFs (acc ++ [f])) ⟨_, app_flt acc f (by omega), rfl⟩ fun r hr => ?_
    subst hr
    rw [w64 (x := x9 + 1) (by omega) (by omega)]
    have hv := VV_sub (min 5 (l.length - (acc.length + 1))) (by omega) l'.length (by omega) (by omega)
    have q0 : (acc ++ [f]).length = acc.length + 1 := by rw [List.length_append]; rfl
    have q1 : sFs (acc ++ [f]) ≤ KS l.length (acc ++ [f]).length := by
      rw [sFs_app, q0, KS]
      omega
    have q2 : ((acc ++ [f]).length : Int) = x9 + 1 - 1 := by rw [q0]; omega
    have hfin := ihm (x9 + 1) (acc ++ [f]) (by omega) (by omega) (by omega) (by omega) q2 q1
    with_reducible exact hfin
theorem mk6 (s : List UInt8) (hs : s.length ≤ 60) : ∀ (n : Nat) (l : List Int), l.length ≤ n → n ≤ 10 → bytesI l → Yes (brooklaw6_Make.f call (rowI l) s) fun r => ∃ f : Flt, r = (tupF f, ()) ∧ sF f ≤ VV l.length := by
  intro n
  induction n with
  | zero =>
    intro l hl hn hb
    rw [brooklaw6_Make.eq hW, rowI_len, decide_eq_true (show (l.length : Int) = 0 by omega), cond_true]
    exact .some ⟨⟨8, [99, 110], [], [], []⟩, rfl, by have := VV_lo l.length (by omega); simp only [sF, sFs, sS, List.length_nil, List.length_cons]; omega⟩
  | succ n ih =>
    intro l hl hn hb
    have hB := VV_lo l.length (by omega)
    rw [brooklaw6_Make.eq hW, rowI_len]
    refine .cond (fun _ => .some ⟨⟨8, [99, 110], [], [], []⟩, rfl, by simp only [sF, sFs, sS, List.length_nil, List.length_cons]; omega⟩) fun hc => ?_
    have hc := of_decide_eq_false hc
    refine yes_byte hb ⟨by omega, by omega⟩ fun v hv => ?_
    have hv64 := w64r hv
    simp only []
    generalize IntKind.wrap .i64 v = v at hv64 ⊢
    refine yes_row (p := pS 20) ?_ ?_ fun e he => yes_str he fun t5 ht5 => ?_
    · repeat' (first | exact Tab.nil | (apply Tab.cons; exact .mk (by simp)))
    · exact tmr (w64r (tdr hv64 (by omega))).1 (by simp)
    refine yes_row (p := pS 60) ?_ ?_ fun e he => yes_str he fun t8 ht8 => ?_
    · repeat' (first | exact Tab.nil | (apply Tab.cons; exact .mk (by first | exact hs | simp)))
    · exact tmr (w64r (tdr hv64 (by omega))).1 (by simp)
    simp only []
    generalize IntKind.wrap .i64 (1 + Int.tmod v 8) = K
    have loop : Yes (brooklaw6_Make.l14 call lp (rowI l) s v 1 (0, [], [], [], [], ()) (K, [], [], [], ()) []) fun r => ∃ f : Flt, r = (tupF f, ()) ∧ sF f ≤ VV l.length :=
      mk6_loop hW (fun l' h1 h2 => ih l' (by omega) (by omega) h2) (by omega) (by omega) hb hv64 K _ 3 1 [] (by omega) (by omega) (by omega) (by omega) (by simp) (by simp [sFs])
    have parts : Yes ((cat s [101]).bind fun t9 => (at_ [[D.list [[D.str [110]], [D.str []]]], [D.list [[D.str []], [D.str [49]]]], [D.list [[D.str []], [D.str t9], [D.str []]]], [D.list [[D.str [68]], [D.str [32]], [D.str [53]]]]] (Int.tmod (IntKind.wrap .i64 (Int.tdiv v 48)) 4)).bind fun j10 => ([[D.list [[D.str [110]], [D.str []]]], [D.list [[D.str []], [D.str [49]]]], [D.list [[D.str []], [D.str t9], [D.str []]]], [D.list [[D.str [68]], [D.str [32]], [D.str [53]]]]][j10]?).bind fun e11 => (decs [.list] (sub e11 0 1)).bind fun t12 => some (((K, t5, [], t12.1, [], ()) : FltT), ())) fun r => ∃ f : Flt, r = (tupF f, ()) ∧ sF f ≤ VV l.length := by
      refine Yes.bind (yes_cat (by omega) (by simp)) fun t9 ht9 => ?_
      simp only [List.length_cons, List.length_nil] at ht9
      refine yes_row (p := pL 70) ?_ ?_ fun e he => yes_list he fun ps hps => ?_
      · exact .cons (.mk [[110], []] (by simp [sS])) (.cons (.mk [[], [49]] (by simp [sS])) (.cons (.mk [[], t9, []] (by simp only [sS, List.length_nil]; omega)) (.cons (.mk [[68], [32], [53]] (by simp [sS])) .nil)))
      · exact tmr (w64r (tdr hv64 (by omega))).1 (by simp)
      · exact .some ⟨⟨K, t5, [], ps, []⟩, rfl, by simp only [sF, sFs, List.length_nil]; omega⟩
    have has : Yes (some (((K, t5, [], [], [], ()) : FltT), ())) fun r => ∃ f : Flt, r = (tupF f, ()) ∧ sF f ≤ VV l.length := .some ⟨⟨K, t5, [], [], []⟩, rfl, by simp only [sF, sFs, sS, List.length_nil]; omega⟩
    have val : Yes (some (((K, t5, t8, [], [], ()) : FltT), ())) fun r => ∃ f : Flt, r = (tupF f, ()) ∧ sF f ≤ VV l.length := .some ⟨⟨K, t5, t8, [], []⟩, rfl, by simp only [sF, sFs, sS, List.length_nil]; omega⟩
    have rest := fun (b1 b2 : Bool) => Yes.cond (b := b1) (Q := fun r : FltT × Unit => ∃ f : Flt, r = (tupF f, ()) ∧ sF f ≤ VV l.length) (fun _ => has) (fun _ => Yes.cond (b := b2) (fun _ => parts) fun _ => val)
    exact .cond (fun _ => .cond (fun _ => loop) fun _ => rest _ _) fun _ => .cond (fun _ => .cond (fun _ => loop) fun _ => rest _ _) fun _ => .cond (fun _ => loop) fun _ => rest _ _
end
end Go.Proofs.YtcpidokhkcmdfaaGreat.B
