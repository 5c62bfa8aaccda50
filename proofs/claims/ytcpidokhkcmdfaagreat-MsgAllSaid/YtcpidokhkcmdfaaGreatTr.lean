/- What statements go through is not so large. Conditions: those of each theorem. -/
import Derived.Test.YtcpidokhkcmdfaaGreatTq
namespace Go.Proofs.YtcpidokhkcmdfaaGreat.B
open Go Go.Proofs Go.Proofs.YtcpidokhkcmdfaaGreat.I
set_option linter.unusedVariables false
set_option linter.unusedSimpArgs false
set_option maxRecDepth 100000
theorem sS_le (b : Nat) : ∀ l : List (List UInt8), (∀ s ∈ l, s.length ≤ b) → sS l ≤ l.length * (b + 1)
  | [], _ => by simp [sS]
  | s :: r, h => by
    have := sS_le b r fun x hx => h x (List.mem_cons_of_mem _ hx)
    have := h s (by simp)
    simp only [sS, List.length_cons, Nat.add_mul]; omega
/-- A loop that looks for what is too large. -/
theorem loop_great {α : Type} {L : Int → Option (Bool × Unit)} {xs : List α} {K : Nat} {e : Bool} {ok : α → Prop} (hstep : ∀ (j : Nat) (h : j < xs.length), j < K → L j = some (true, ()) ∨ (ok xs[j] ∧ L j = L ((j : Int) + 1))) (hend : ∀ j : Nat, (xs.length ≤ j ∨ K ≤ j) → j ≤ xs.length → L j = some (e, ())) : ∃ b, L 0 = some (b, ()) ∧ (b = false → e = false ∧ (xs.length ≤ K → ∀ x ∈ xs, ok x)) := by
  have key : ∀ (m j : Nat), xs.length - j ≤ m → j ≤ xs.length → ∃ b, L j = some (b, ()) ∧ (b = false → e = false ∧ (xs.length ≤ K → ∀ x ∈ xs.drop j, ok x)) := by
    intro m
    induction m with
    | zero =>
      intro j h1 h2
      refine ⟨e, hend j (by omega) h2, fun h => ⟨h, fun _ => ?_⟩⟩
      rw [List.drop_eq_nil_of_le (by omega)]; simp
    | succ m ih =>
      intro j h1 h2
      by_cases h : j < xs.length ∧ j < K
      · rcases hstep j h.1 h.2 with h3 | ⟨h3, h4⟩
        · exact ⟨true, h3, fun h => by cases h⟩
        · obtain ⟨b, g1, g2⟩ := ih (j + 1) (by omega) (by omega)
          refine ⟨b, by rw [h4]; exact g1, fun hb => ⟨(g2 hb).1, fun hK => ?_⟩⟩
          rw [List.drop_eq_getElem_cons h.1]
          intro x hx
          rcases List.mem_cons.1 hx with rfl | hx
          · exact h3
          · exact (g2 hb).2 hK x hx
      · refine ⟨e, hend j (by omega) h2, fun hb => ⟨hb, fun hK => ?_⟩⟩
        rw [List.drop_eq_nil_of_le (by omega)]; simp
  have := key xs.length 0 (by omega) (by omega)
  simpa using this
section
variable {call : Oracle} {lp : Loops} (hW : Fix Tryz.prog hs call lp)
include hW
theorem great_eq (l : List (List UInt8)) : ∃ b, brooklaw19_great.f call (dSs l) = some (b, ()) ∧ (b = false → sS l ≤ 20000) := by
  obtain ⟨b, h1, h2⟩ := loop_great (L := fun i => brooklaw19_great.l2 call lp (dSs l) i) (xs := l) (K := 60) (e := decide (50 < (l.length : Int))) (ok := fun s => s.length ≤ 300) (fun j h hK => by
    rw [brooklaw19_great.l2.eq hW]
    simp only [andS, Option.bind_some, dSs_len]
    rw [decide_eq_true (show (j : Int) < (l.length : Int) by omega), decide_eq_true (show (j : Int) < 60 by omega), ix_str l j h]
    simp only [Bool.and_self, cond_true, Option.bind_some, dec_str, Bool.cond_decide]
    by_cases c : 300 < (l[j].length : Int)
    · rw [if_pos c]; exact .inl rfl
    · rw [if_neg c, w64 (x := (j : Int) + 1) (by omega) (by omega)]
      exact .inr ⟨by omega, rfl⟩) (fun j h h2 => by
    rw [brooklaw19_great.l2.eq hW]
    simp only [andS, Option.bind_some, dSs_len]
    have : (decide ((j : Int) < (l.length : Int)) && decide ((j : Int) < 60)) = false := by
      rw [Bool.and_eq_false_iff, decide_eq_false_iff_not, decide_eq_false_iff_not]; omega
    rw [this]; rfl)
  rw [brooklaw19_great.eq hW]
  refine ⟨b, h1, fun hb => ?_⟩
  obtain ⟨h3, h4⟩ := h2 hb
  have h3 := of_decide_eq_false h3
  have := sS_le 300 l (h4 (by omega))
  have h5 : l.length * 301 ≤ 50 * 301 := Nat.mul_le_mul_right _ (by omega)
  omega
omit hW in
theorem sMs_le : ∀ l : List Mdf, (∀ x ∈ l, 1 + x.t.length + sS x.vs ≤ 16000) → sMs l ≤ l.length * 16000
  | [], _ => by simp [sMs]
  | x :: r, h => by
    have := sMs_le r fun y hy => h y (List.mem_cons_of_mem _ hy)
    have := h x (by simp)
    simp only [sMs, List.length_cons, Nat.add_mul]; omega
omit hW in
theorem sAs_le : ∀ l : List Att, (∀ x ∈ l, 1 + x.t.length + sS x.vs ≤ 16000) → sAs l ≤ l.length * 16000
  | [], _ => by simp [sAs]
  | x :: r, h => by
    have := sAs_le r fun y hy => h y (List.mem_cons_of_mem _ hy)
    have := h x (by simp)
    simp only [sAs, List.length_cons, Nat.add_mul]; omega
theorem great9_in (l : List Mdf) (i : Nat) (hi : i < l.length) (hv : l[i].vs.length ≤ 45) (hi60 : i < 60) : ∃ L : Option (Bool × Unit), (L = some (true, ()) ∨ ((∀ s ∈ l[i].vs, s.length ≤ 200) ∧ L = brooklaw9_Great.l2 call lp (dMs l) ((i : Int) + 1))) ∧ brooklaw9_Great.l7 call lp (dMs l) (i : Int) 0 = L := by
  refine ⟨_, ?_, rfl⟩
  have d3 : ∀ m : Mdf, decs [.list] (sub (dM m) 2 1) = some (dSs m.vs, ()) := fun _ => rfl
  have key : ∀ (m j : Nat), l[i].vs.length - j ≤ m → j ≤ l[i].vs.length → brooklaw9_Great.l7 call lp (dMs l) (i : Int) (j : Int) = some (true, ()) ∨ ((∀ s ∈ l[i].vs.drop j, s.length ≤ 200) ∧ brooklaw9_Great.l7 call lp (dMs l) (i : Int) (j : Int) = brooklaw9_Great.l2 call lp (dMs l) ((i : Int) + 1)) := by
    intro m
    induction m with
    | zero =>
      intro j h1 h2
      right
      rw [brooklaw9_Great.l7.eq hW, ix_mod l i hi]
      simp only [Option.bind_some, d3, dSs_len, Bool.cond_decide]
      rw [if_neg (by omega), w64 (by omega) (by omega), List.drop_eq_nil_of_le (by omega)]
      exact ⟨by simp, rfl⟩
    | succ m ih =>
      intro j h1 h2
      by_cases h : j < l[i].vs.length
      · rw [brooklaw9_Great.l7.eq hW, ix_mod l i hi]
        simp only [Option.bind_some, d3, dSs_len, Bool.cond_decide]
        rw [if_pos (by omega), ix_str l[i].vs j h]
        simp only [Option.bind_some, dec_str]
        by_cases c : 200 < (l[i].vs[j].length : Int)
        · rw [if_pos c]; exact .inl rfl
        · rw [if_neg c, w64 (by omega) (by omega), List.drop_eq_getElem_cons h]
          rcases ih (j + 1) (by omega) (by omega) with h3 | ⟨h3, h4⟩
          · exact .inl h3
          · right
            refine ⟨fun s hs => ?_, h4⟩
            rcases List.mem_cons.1 hs with rfl | hs
            · omega
            · exact h3 s hs
      · exact ih j (by omega) h2
  have := key l[i].vs.length 0 (by omega) (by omega)
  simpa using this
theorem great9_eq (l : List Mdf) : ∃ b, brooklaw9_Great.f call (dMs l) = some (b, ()) ∧ (b = false → sMs l ≤ 200000) := by
  have d2 : ∀ m : Mdf, decs [.str] (sub (dM m) 1 1) = some (m.t, ()) := fun _ => rfl
  have d3 : ∀ m : Mdf, decs [.list] (sub (dM m) 2 1) = some (dSs m.vs, ()) := fun _ => rfl
  obtain ⟨b, h1, h2⟩ := loop_great (L := fun i => brooklaw9_Great.l2 call lp (dMs l) i) (xs := l) (K := 20) (e := decide (12 < (l.length : Int))) (ok := fun x => 1 + x.t.length + sS x.vs ≤ 16000) (fun j h hK => by
    rw [brooklaw9_Great.l2.eq hW]
    simp only [andS, Option.bind_some, dMs_len]
    rw [decide_eq_true (show (j : Int) < (l.length : Int) by omega), decide_eq_true (show (j : Int) < 20 by omega), ix_mod l j h]
    simp only [Bool.and_self, cond_true, Option.bind_some, d2, d3, orS, dSs_len]
    by_cases c : 100 < (l[j].t.length : Int)
    · rw [decide_eq_true c]; exact .inl rfl
    · by_cases c2 : 45 < (l[j].vs.length : Int)
      · rw [decide_eq_true c2, Bool.or_true]; exact .inl rfl
      · rw [decide_eq_false c, decide_eq_false c2]
        simp only [Bool.or_self, cond_false]
        obtain ⟨L, h3, h4⟩ := great9_in hW l j h (by omega) (by omega)
        rw [h4]
        rcases h3 with h3 | ⟨h3, h5⟩
        · exact .inl h3
        · right
          have := sS_le 200 _ h3
          have h6 : l[j].vs.length * 201 ≤ 45 * 201 := Nat.mul_le_mul_right _ (by omega)
          exact ⟨by omega, h5⟩) (fun j h h2 => by
    rw [brooklaw9_Great.l2.eq hW]
    simp only [andS, Option.bind_some, dMs_len]
    have : (decide ((j : Int) < (l.length : Int)) && decide ((j : Int) < 20)) = false := by
      rw [Bool.and_eq_false_iff, decide_eq_false_iff_not, decide_eq_false_iff_not]; omega
    rw [this]; rfl)
  rw [brooklaw9_Great.eq hW]
  refine ⟨b, h1, fun hb => ?_⟩
  obtain ⟨h3, h4⟩ := h2 hb
  have h3 := of_decide_eq_false h3
  have := sMs_le l (h4 (by omega))
  have h5 : l.length * 16000 ≤ 12 * 16000 := Nat.mul_le_mul_right _ (by omega)
  omega
theorem great4_in (d : List UInt8) (l : List Att) (i : Nat) (hi : i < l.length) (hv : l[i].vs.length ≤ 50) (hi60 : i < 60) : ∃ L : Option (Bool × Unit), (L = some (true, ()) ∨ ((∀ s ∈ l[i].vs, s.length ≤ 300) ∧ L = brooklaw4_Great.l2 call lp ((i : Int) + 1) (d, dAs l, ()))) ∧ brooklaw4_Great.l7 call lp (i : Int) 0 (d, dAs l, ()) = L := by
  refine ⟨_, ?_, rfl⟩
  have d3 : ∀ m : Att, decs [.list] (sub (dA m) 1 1) = some (dSs m.vs, ()) := fun _ => rfl
  have key : ∀ (m j : Nat), l[i].vs.length - j ≤ m → j ≤ l[i].vs.length → brooklaw4_Great.l7 call lp (i : Int) (j : Int) (d, dAs l, ()) = some (true, ()) ∨ ((∀ s ∈ l[i].vs.drop j, s.length ≤ 300) ∧ brooklaw4_Great.l7 call lp (i : Int) (j : Int) (d, dAs l, ()) = brooklaw4_Great.l2 call lp ((i : Int) + 1) (d, dAs l, ())) := by
    intro m
    induction m with
    | zero =>
      intro j h1 h2
      right
      rw [brooklaw4_Great.l7.eq hW, ix_att l i hi]
      simp only [Option.bind_some, d3, dSs_len, Bool.cond_decide]
      rw [if_neg (by omega), w64 (by omega) (by omega), List.drop_eq_nil_of_le (by omega)]
      exact ⟨by simp, rfl⟩
    | succ m ih =>
      intro j h1 h2
      by_cases h : j < l[i].vs.length
      · rw [brooklaw4_Great.l7.eq hW, ix_att l i hi]
        simp only [Option.bind_some, d3, dSs_len, Bool.cond_decide]
        rw [if_pos (by omega), ix_str l[i].vs j h]
        simp only [Option.bind_some, dec_str]
        by_cases c : 300 < (l[i].vs[j].length : Int)
        · rw [if_pos c]; exact .inl rfl
        · rw [if_neg c, w64 (by omega) (by omega), List.drop_eq_getElem_cons h]
          rcases ih (j + 1) (by omega) (by omega) with h3 | ⟨h3, h4⟩
          · exact .inl h3
          · right
            refine ⟨fun s hs => ?_, h4⟩
            rcases List.mem_cons.1 hs with rfl | hs
            · omega
            · exact h3 s hs
      · exact ih j (by omega) h2
  have := key l[i].vs.length 0 (by omega) (by omega)
  simpa using this
theorem great4_eq (d : List UInt8) (l : List Att) : ∃ b, brooklaw4_Great.f call (d, dAs l, ()) = some (b, ()) ∧ (b = false → sAs l ≤ 500000 ∧ d.length ≤ 600) := by
  have d2 : ∀ m : Att, decs [.str] (sub (dA m) 0 1) = some (m.t, ()) := fun _ => rfl
  have d3 : ∀ m : Att, decs [.list] (sub (dA m) 1 1) = some (dSs m.vs, ()) := fun _ => rfl
  obtain ⟨b, h1, h2⟩ := loop_great (L := fun i => brooklaw4_Great.l2 call lp i (d, dAs l, ())) (xs := l) (K := 30) (e := decide (25 < (l.length : Int)) || decide (600 < (d.length : Int))) (ok := fun x => 1 + x.t.length + sS x.vs ≤ 16000) (fun j h hK => by
    rw [brooklaw4_Great.l2.eq hW]
    simp only [andS, Option.bind_some, dAs_len]
    rw [decide_eq_true (show (j : Int) < (l.length : Int) by omega), decide_eq_true (show (j : Int) < 30 by omega), ix_att l j h]
    simp only [Bool.and_self, cond_true, Option.bind_some, d2, d3, orS, dSs_len]
    by_cases c : 100 < (l[j].t.length : Int)
    · rw [decide_eq_true c]; exact .inl rfl
    · by_cases c2 : 50 < (l[j].vs.length : Int)
      · rw [decide_eq_true c2, Bool.or_true]; exact .inl rfl
      · rw [decide_eq_false c, decide_eq_false c2]
        simp only [Bool.or_self, cond_false]
        obtain ⟨L, h3, h4⟩ := great4_in hW d l j h (by omega) (by omega)
        rw [h4]
        rcases h3 with h3 | ⟨h3, h5⟩
        · exact .inl h3
        · right
          have := sS_le 300 _ h3
          have h6 : l[j].vs.length * 301 ≤ 50 * 301 := Nat.mul_le_mul_right _ (by omega)
          exact ⟨by omega, h5⟩) (fun j h h2 => by
    rw [brooklaw4_Great.l2.eq hW]
    simp only [andS, orS, Option.bind_some, dAs_len]
    have : (decide ((j : Int) < (l.length : Int)) && decide ((j : Int) < 30)) = false := by
      rw [Bool.and_eq_false_iff, decide_eq_false_iff_not, decide_eq_false_iff_not]; omega
    rw [this]; rfl)
  rw [brooklaw4_Great.eq hW]
  refine ⟨b, h1, fun hb => ?_⟩
  obtain ⟨h3, h4⟩ := h2 hb
  rw [Bool.or_eq_false_iff, decide_eq_false_iff_not, decide_eq_false_iff_not] at h3
  have := sAs_le l (h4 (by omega))
  have h5 : l.length * 16000 ≤ 25 * 16000 := Nat.mul_le_mul_right _ (by omega)
  exact ⟨by omega, by omega⟩
theorem many_eq : ∀ (n : Nat) (f : Flt) (d : Int), sF f ≤ n → 0 ≤ d → d ≤ 21 → ∃ r : Int, brooklaw6_many.f call (tupF f) d = some (r, ()) ∧ 1 ≤ r ∧ r ≤ 1000 * (22 - d) + 1000 ∧ (r < 1000 → (sF f : Int) ≤ 6500 * r) := by
  intro n
  induction n with
  | zero => intro f d h; have := sF_pos f; omega
  | succ n ih =>
    intro f d hn hd0 hd1
    have he := sF_eq f
    rw [brooklaw6_many.eq hW]
    simp only [orS, Option.bind_some, dFs_len, dSs_len]
    by_cases c : 20 < d ∨ 60 < (f.ks.length : Int) ∨ 20 < (f.ps.length : Int) ∨ 100 < (f.t.length : Int) ∨ 300 < (f.v.length : Int)
    · have : ((((decide (20 < d) || decide (60 < (f.ks.length : Int))) || decide (20 < (f.ps.length : Int))) || decide (100 < (f.t.length : Int))) || decide (300 < (f.v.length : Int))) = true := by
        simp only [Bool.or_eq_true, decide_eq_true_eq]; omega
      rw [this]
      exact ⟨1000, rfl, by omega, by omega, fun h => by omega⟩
    · have : ((((decide (20 < d) || decide (60 < (f.ks.length : Int))) || decide (20 < (f.ps.length : Int))) || decide (100 < (f.t.length : Int))) || decide (300 < (f.v.length : Int))) = false := by
        simp only [Bool.or_eq_false_iff, decide_eq_false_iff_not]; omega
      rw [this]
      simp only [cond_false]
      -- the parts
      have hparts : ∀ (m j : Nat), f.ps.length - j ≤ m → j ≤ f.ps.length → brooklaw6_many.l4 call lp d (j : Int) (tupF f) = some (1000, ()) ∨ ((∀ s ∈ f.ps.drop j, s.length ≤ 300) ∧ brooklaw6_many.l4 call lp d (j : Int) (tupF f) = brooklaw6_many.l10 call lp d 1 0 (tupF f)) := by
        intro m
        induction m with
        | zero =>
          intro j h1 h2
          right
          rw [brooklaw6_many.l4.eq hW]
          simp only [Bool.cond_decide, dSs_len]
          rw [if_neg (by omega), List.drop_eq_nil_of_le (by omega)]
          exact ⟨by simp, rfl⟩
        | succ m ihm =>
          intro j h1 h2
          by_cases h : j < f.ps.length
          · rw [brooklaw6_many.l4.eq hW]
            simp only [Bool.cond_decide, dSs_len]
            rw [if_pos (by omega), ix_str f.ps j h]
            simp only [Option.bind_some, dec_str]
            by_cases c : 300 < (f.ps[j].length : Int)
            · rw [if_pos c]; exact .inl rfl
            · rw [if_neg c, w64 (by omega) (by omega), List.drop_eq_getElem_cons h]
              rcases ihm (j + 1) (by omega) (by omega) with h3 | ⟨h3, h4⟩
              · exact .inl h3
              · right
                refine ⟨fun s hs => ?_, h4⟩
                rcases List.mem_cons.1 hs with rfl | hs
                · omega
                · exact h3 s hs
          · exact ihm j (by omega) h2
      -- the kids
      have hkids : ∀ (m j : Nat) (x : Int), f.ks.length - j ≤ m → j ≤ f.ks.length → 1 ≤ x → x ≤ 1000 * (21 - d) + 2000 → ∃ r : Int, brooklaw6_many.l10 call lp d x (j : Int) (tupF f) = some (r, ()) ∧ x ≤ r ∧ r ≤ 1000 * (21 - d) + 2000 ∧ (r < 1000 → (sFs (f.ks.drop j) : Int) ≤ 6500 * (r - x)) := by
        intro m
        induction m with
        | zero =>
          intro j x h1 h2 h3 h4
          rw [brooklaw6_many.l10.eq hW]
          simp only [andS, Option.bind_some, dFs_len]
          rw [decide_eq_false (show ¬ ((j : Int) < (f.ks.length : Int)) by omega), List.drop_eq_nil_of_le (by omega)]
          exact ⟨x, rfl, by omega, h4, fun _ => by simp [sFs]⟩
        | succ m ihm =>
          intro j x h1 h2 h3 h4
          by_cases h : j < f.ks.length
          · rw [brooklaw6_many.l10.eq hW]
            simp only [andS, Option.bind_some, dFs_len]
            rw [decide_eq_true (show (j : Int) < (f.ks.length : Int) by omega), Bool.true_and]
            by_cases cx : x < 1000
            · rw [decide_eq_true cx, cond_true, ix_flt f.ks j h]
              simp only [Option.bind_some, dec_flt]
              have hm := sFs_mem _ _ (List.getElem_mem h)
              obtain ⟨q, q1, q2, q3, q4⟩ := ih f.ks[j] (d + 1) (by omega) (by omega) (by omega)
              rw [w64 (x := d + 1) (by omega) (by omega), q1]
              simp only [Option.bind_some]
              rw [w64 (x := x + q) (by omega) (by omega), w64 (x := (j : Int) + 1) (by omega) (by omega)]
              obtain ⟨r, r1, r2, r3, r4⟩ := ihm (j + 1) (x + q) (by omega) (by omega) (by omega) (by omega)
              refine ⟨r, r1, by omega, r3, fun hr => ?_⟩
              have a := r4 hr
              have b := q4 (by omega)
              rw [List.drop_eq_getElem_cons h]
              simp only [sFs]
              omega
            · rw [decide_eq_false cx]
              exact ⟨x, rfl, by omega, h4, fun hr => by omega⟩
          · exact ihm j x (by omega) h2 h3 h4
      rcases hparts f.ps.length 0 (by omega) (by omega) with h1 | ⟨h1, h2⟩
      · exact ⟨1000, h1, by omega, by omega, fun h => by omega⟩
      · have h2' : brooklaw6_many.l4 call lp d 0 (tupF f) = brooklaw6_many.l10 call lp d 1 0 (tupF f) := h2
        rw [h2']
        obtain ⟨r, r1, r2, r3, r4⟩ := hkids f.ks.length 0 1 (by omega) (by omega) (by omega) (by omega)
        refine ⟨r, r1, r2, by omega, fun hr => ?_⟩
        have a := r4 hr
        rw [List.drop_zero] at a h1
        have b := sS_le 300 f.ps h1
        have e : f.ps.length * 301 ≤ 20 * 301 := Nat.mul_le_mul_right _ (by omega)
        omega
theorem Great_eq (m : Mg) : ∃ b, brooklaw19_Great.f call (tupM m) = some (b, ()) ∧ (b = false → sG m ≤ 100000000) := by
  obtain ⟨r, r1, r2, r3, r4⟩ := many_eq hW _ m.flt 0 (Nat.le_refl _) (by omega) (by omega)
  obtain ⟨b1, t1, t2⟩ := great_eq hW m.types
  obtain ⟨b2, u1, u2⟩ := great9_eq hW m.mods
  obtain ⟨b3, v1, v2⟩ := great4_eq hW m.edn m.attrs
  obtain ⟨b4, w1, w2⟩ := great_eq hW m.refs
  rw [brooklaw19_Great.eq hW, brooklaw6_Great.eq hW]
  have e : tupF m.flt = (m.flt.k, m.flt.t, m.flt.v, dSs m.flt.ps, dFs m.flt.ks, ()) := rfl
  rw [e] at r1
  rw [r1, t1, u1, v1, w1]
  simp only [Option.bind_some, orS]
  refine ⟨_, rfl, fun h => ?_⟩
  simp only [Bool.or_eq_false_iff, decide_eq_false_iff_not] at h
  have := t2 h.1.1.1.1.1.1.2
  have := u2 h.1.1.1.1.1.2
  have := v2 h.1.1.1.1.2
  have := w2 h.2
  have := r4 (by omega)
  unfold sG
  omega
end
end Go.Proofs.YtcpidokhkcmdfaaGreat.B
