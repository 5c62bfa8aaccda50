/- Messages as the reference puts them: the same. Conditions: those of each theorem. -/
import Derived.Test.YtcpidokhkcmdfaaGreatTi
namespace Go.Proofs.YtcpidokhkcmdfaaGreat.B
open Go Go.Proofs Go.Proofs.YtcpidokhkcmdfaaGreat.I
set_option linter.unusedVariables false
set_option linter.unusedSimpArgs false
set_option maxRecDepth 100000
theorem flatI_congr {α γ : Type} {g g' : Nat → α → List γ} : ∀ (l : List α) (j : Nat), (∀ (i : Nat) (h : i < l.length), g (j + i) l[i] = g' (j + i) l[i]) → flatI g j l = flatI g' j l
  | [], j, _ => rfl
  | x :: r, j, h => by
    have h0 := h 0 (by simp)
    simp only [flatI]
    have e : flatI g (j + 1) r = flatI g' (j + 1) r := flatI_congr r (j + 1) fun i hi => by
      have := h (i + 1) (by simp; omega)
      rw [show j + 1 + i = j + (i + 1) by omega]
      simpa using this
    simp at h0
    rw [h0, e]
theorem allI_get {α : Type} {p : Nat → α → Bool} : ∀ (l : List α) (j : Nat), allI p j l = true → ∀ (i : Nat) (h : i < l.length), p (j + i) l[i] = true
  | x :: r, j, h, i, hi => by
    simp only [allI, Bool.and_eq_true] at h
    cases i with
    | zero => simpa using h.1
    | succ i =>
      have := allI_get r (j + 1) h.2 i (by simpa using hi)
      rw [show j + 1 + i = j + (i + 1) by omega] at this
      simpa using this
theorem parts_same {ps : List (List UInt8)} (h : mayP ps = true) : flatI (partR ps.length) 0 ps = flatI (partT ps.length) 0 ps := by
  unfold mayP at h
  simp only [Bool.and_eq_true] at h
  have hg := allI_get _ _ h.2
  refine flatI_congr _ _ fun i hi => ?_
  have := hg i hi
  simp only [Nat.zero_add] at this ⊢
  simp only [Bool.and_eq_true, Bool.not_eq_true', Bool.and_eq_false_iff, decide_eq_true_eq, decide_eq_false_iff_not] at this
  unfold partR partT
  by_cases c : ps[i] = []
  · have h2 : ¬ (0 < (i : Int) ∧ (i : Int) < (ps.length : Int) - 1) := by
      rintro ⟨g1, g2⟩
      rcases this.2 with (g | g) | g
      · exact g c
      · exact g g1
      · exact g g2
    rw [if_pos c, if_neg (fun h => h.2 c), if_neg (fun h => h.2 c), if_neg h2]
  · rw [if_neg c]
    by_cases c1 : (i : Int) = 0
    · rw [if_pos ⟨c1, c⟩, if_pos c1]
    · rw [if_neg (fun h => c1 h.1), if_neg c1]
      by_cases c2 : (i : Int) = (ps.length : Int) - 1
      · rw [if_pos ⟨c2, c⟩, if_pos c2]
      · rw [if_neg (fun h => c2 h.1), if_neg c2, if_pos (by omega)]
theorem partR_one (n j : Nat) (s : List UInt8) : (partR n j s).length ≤ 1 := by unfold partR; repeat (first | split | simp)
section
variable {call : Oracle} {lp : Loops} (hW : Fix Tryz.prog hs call lp)
include hW
theorem leaf_eq (tag : Int) (s : List UInt8) : brookref1_Leaf.f call tag s = some (tup (leafT tag s), ()) := by rw [brookref1_Leaf.eq hW]; rfl
theorem node_eq (tag : Int) (l : List Tlv) : brookref1_Node.f call tag (dTs l) = some (tup (nodeT tag l), ()) := by rw [brookref1_Node.eq hW]
theorem rtext_eq (s : List UInt8) : brookref19_text.f call s = some (tup (strT s), ()) := by rw [brookref19_text.eq hW, leaf_eq hW]; rfl
theorem rnum_eq (n : Int) (h0 : -9223372036854775808 ≤ n) (h1 : n ≤ 9223372036854775807) : brookref19_num.f call n = some (tup (numT 2 n), ()) := by rw [brookref19_num.eq hW, rInt_eq hW n h0 h1]; simp only [Option.bind_some, leaf_eq hW]; rfl
theorem renum_eq (n : Int) (h0 : -9223372036854775808 ≤ n) (h1 : n ≤ 9223372036854775807) : brookref19_enum.f call n = some (tup (numT 10 n), ()) := by rw [brookref19_enum.eq hW, rInt_eq hW n h0 h1]; simp only [Option.bind_some, leaf_eq hW]; rfl
theorem rtruth_eq (b : Bool) : brookref19_truth.f call b = some (tup (isT b), ()) := by
  rw [brookref19_truth.eq hW, leaf_eq hW, leaf_eq hW]
  cases b <;> rfl
theorem rpair_eq (tag : Int) (a b : List UInt8) : brookref19_pair.f call tag a b = some (tup (nodeT tag [strT a, strT b]), ()) := by
  rw [brookref19_pair.eq hW, rtext_eq hW, rtext_eq hW]
  simp only [Option.bind_some]
  rw [dTs_2 (strT a) (strT b), node_eq hW]; rfl
theorem rtexts_eq (l : List (List UInt8)) (hl : l.length ≤ 1073741824) : brookref19_texts.f call (dSs l) = some (dTs (l.map strT), ()) := by
  rw [brookref19_texts.eq hW]
  have := loop_map (L := fun i acc => brookref19_texts.l3 call lp (dSs l) i (dTs acc)) (xs := l) (f := strT) (e := fun acc => (dTs acc, ())) (fun j h acc ha => by
    rw [brookref19_texts.l3.eq hW, dSs_len]
    simp only [Bool.cond_decide]
    rw [if_pos (by omega), ix_str l j h]
    simp only [Option.bind_some, dec_str, rtext_eq hW]
    rw [app_tlv acc (strT l[j]) (by omega), w64 (x := (j : Int) + 1) (by omega) (by omega)]
    rfl) (fun acc ha => by
    rw [brookref19_texts.l3.eq hW, dSs_len]
    simp only [Bool.cond_decide]
    rw [if_neg (by omega)])
  exact this
theorem rattr_eq (a : Att) (hl : a.vs.length ≤ 1073741824) : brookref12_Attr.f call (a.t, dSs a.vs, ()) = some (tup (attrT a.t a.vs), ()) := by
  rw [brookref12_Attr.eq hW]
  have := loop_map (L := fun i acc => brookref12_Attr.l3 call lp i (a.t, dSs a.vs, ()) (0, [], [], ()) (dTs acc)) (xs := a.vs) (f := strT) (e := fun acc => (tup (nodeT 48 [strT a.t, nodeT 49 acc]), ())) (fun j h acc ha => by
    rw [brookref12_Attr.l3.eq hW]
    simp only [Bool.cond_decide, dSs_len]
    rw [if_pos (by omega), ix_str a.vs j h]
    simp only [Option.bind_some, dec_str, leaf_eq hW]
    rw [app_tlv acc (leafT 4 a.vs[j]) (by omega), w64 (x := (j : Int) + 1) (by omega) (by omega)]
    rfl) (fun acc ha => by
    rw [brookref12_Attr.l3.eq hW]
    simp only [Bool.cond_decide, dSs_len]
    rw [if_neg (by omega), leaf_eq hW, node_eq hW]
    simp only [Option.bind_some]
    rw [dTs_2 (leafT 4 a.t) (nodeT 49 acc), node_eq hW]
    rfl)
  exact this
theorem rattrs_eq (l : List Att) (hl : sAs l ≤ 1073741824) : brookref12_Attrs.f call (dAs l) = some (tup (attsT l), ()) := by
  have hln := sAs_len l
  rw [brookref12_Attrs.eq hW]
  have := loop_map (L := fun i acc => brookref12_Attrs.l3 call lp (dAs l) i (0, [], [], ()) (dTs acc)) (xs := l) (f := fun a => attrT a.t a.vs) (e := fun acc => (tup (nodeT 48 acc), ())) (fun j h acc ha => by
    have h1 := sAs_mem _ _ (List.getElem_mem h)
    have h2 := sS_len l[j].vs
    rw [brookref12_Attrs.l3.eq hW]
    simp only [Bool.cond_decide, dAs_len]
    rw [if_pos (by omega), ix_att l j h]
    simp only [Option.bind_some, dec_att]
    rw [rattr_eq hW l[j] (by omega)]
    simp only [Option.bind_some]
    rw [app_tlv acc (attrT l[j].t l[j].vs) (by omega), w64 (x := (j : Int) + 1) (by omega) (by omega)]
    rfl) (fun acc ha => by
    rw [brookref12_Attrs.l3.eq hW]
    simp only [Bool.cond_decide, dAs_len]
    rw [if_neg (by omega), node_eq hW]
    rfl)
  exact this
theorem rparts_eq (f : Flt) (hl : f.ps.length ≤ 1073741824) : brookref19_filter.l24 call lp (f.ps.length : Int) 0 (tupF f) (0, [], [], ()) [] = some (tup (nodeT 164 [strT f.t, nodeT 48 (flatI (partR f.ps.length) 0 f.ps)]), ()) := by
  have := loop_flat (L := fun i acc => brookref19_filter.l24 call lp (f.ps.length : Int) i (tupF f) (0, [], [], ()) (dTs acc)) (xs := f.ps) (g := partR f.ps.length) (e := fun acc => (tup (nodeT 164 [strT f.t, nodeT 48 acc]), ())) (fun j x => partR_one _ _ _) (fun j h acc ha => by
    rw [brookref19_filter.l24.eq hW]
    rw [decide_eq_true (show (j : Int) < (f.ps.length : Int) by omega), cond_true, ix_str f.ps j h]
    simp only [Option.bind_some, dec_str, leaf_eq hW, andS]
    rw [w64 (x := (j : Int) + 1) (by omega) (by omega), w64 (x := (f.ps.length : Int) - 1) (by omega) (by omega)]
    unfold partR
    by_cases c : f.ps[j] = []
    · simp only [c, decide_true, Bool.not_true, Bool.and_false, cond_false, ne_eq, not_true_eq_false, and_false, if_false]
      by_cases c3 : 0 < (j : Int) ∧ (j : Int) < (f.ps.length : Int) - 1
      · rw [decide_eq_true c3.1, decide_eq_true c3.2, if_pos c3]
        simp only [Bool.and_self, cond_true]
        rw [app_tlv acc (leafT 129 []) (by omega)]; rfl
      · rw [if_neg c3, List.append_nil]
        have : (decide (0 < (j : Int)) && decide ((j : Int) < (f.ps.length : Int) - 1)) = false := by
          rw [Bool.and_eq_false_iff, decide_eq_false_iff_not, decide_eq_false_iff_not]; omega
        rw [this]; rfl
    · simp only [c, decide_false, Bool.not_false, Bool.and_true, ne_eq, not_false_eq_true, and_true]
      by_cases c1 : (j : Int) = 0
      · rw [decide_eq_true c1, if_pos c1]
        simp only [cond_true]
        rw [app_tlv acc (leafT 128 f.ps[j]) (by omega)]; rfl
      · rw [decide_eq_false c1, if_neg c1]
        simp only [cond_false]
        by_cases c2 : (j : Int) = (f.ps.length : Int) - 1
        · rw [decide_eq_true c2, if_pos c2]
          simp only [cond_true]
          rw [app_tlv acc (leafT 130 f.ps[j]) (by omega)]; rfl
        · rw [decide_eq_false c2, if_neg c2, decide_eq_true (show 0 < (j : Int) by omega), decide_eq_true (show (j : Int) < (f.ps.length : Int) - 1 by omega), if_pos (by omega)]
          simp only [cond_false, Bool.and_self, cond_true]
          rw [app_tlv acc (leafT 129 f.ps[j]) (by omega)]; rfl) (fun acc ha => by
    rw [brookref19_filter.l24.eq hW]
    simp only [Bool.cond_decide]
    rw [if_neg (by omega), rtext_eq hW, node_eq hW]
    simp only [Option.bind_some]
    rw [dTs_2 (strT f.t) (nodeT 48 acc), node_eq hW]
    rfl)
  exact this
theorem rcond_eq : ∀ (n : Nat) (f : Flt) (d : Int), mayF f d = true → sF f ≤ n → sF f ≤ 1073741824 → brookref19_filter.f call (tupF f) = some (tup (condT f), ()) := by
  intro n
  induction n with
  | zero => intro f d _ h; have := sF_pos f; omega
  | succ n ih =>
    intro f d hm hn hs
    have he := sF_eq f
    have hp := sS_len f.ps
    have hk := sFs_len f.ks
    have hkm : ∀ x ∈ f.ks, mayF x (d - 1) = true := by
      intro x hx
      obtain ⟨k, t, v, ps, ks⟩ := f
      simp only [mayF] at hm
      simp only at hx
      split at hm
      · simp only [Bool.and_eq_true, mayFs_all, List.all_eq_true] at hm
        exact hm.2 x hx
      · split at hm
        · simp only [Bool.and_eq_true, mayFs_all, List.all_eq_true] at hm
          exact hm.2 x hx
        · exfalso
          have hne : ¬ (ks.length : Int) = 0 := by
            have := List.length_pos_of_mem hx; omega
          repeat (first | (rw [decide_eq_false hne] at hm; simp at hm; done) | (cases hm; done) | split at hm)
    rw [brookref19_filter.eq hW]
    have := loop_map (L := fun i acc => brookref19_filter.l3 call lp i (tupF f) (0, [], [], ()) (dTs acc)) (xs := f.ks) (f := condT) (e := fun acc => (tup (if f.k = 1 ∨ f.k = 2 ∨ f.k = 3 then nodeT (159 + f.k) acc else condT f), ())) (fun j h acc ha => by
      have h1 := sFs_mem _ _ (List.getElem_mem h)
      rw [brookref19_filter.l3.eq hW]
      simp only [Bool.cond_decide, dFs_len]
      rw [if_pos (by omega), ix_flt f.ks j h]
      simp only [Option.bind_some, dec_flt]
      rw [ih _ (d - 1) (hkm _ (List.getElem_mem h)) (by omega) (by omega)]
      simp only [Option.bind_some]
      rw [app_tlv acc (condT f.ks[j]) (by omega), w64 (x := (j : Int) + 1) (by omega) (by omega)]
      rfl) (fun acc ha => by
      rw [brookref19_filter.l3.eq hW]
      simp only [Bool.cond_decide, dFs_len, dSs_len]
      rw [if_neg (by omega)]
      have hparts := rparts_eq hW f (by omega)
      simp only [node_eq hW, rpair_eq hW, leaf_eq hW, Option.bind_some]
      obtain ⟨k, t, v, ps, ks⟩ := f
      simp only at *
      simp only [condT]
      by_cases h1 : k = 1
      · subst h1; simp only [true_or, if_true]; rfl
      · by_cases h2 : k = 2
        · subst h2; simp only [Int.reduceEq, true_or, or_true, if_true, if_false]; rfl
        · by_cases h3 : k = 3
          · subst h3; simp only [Int.reduceEq, or_true, if_true, if_false]; rfl
          · simp only [h1, h2, h3, or_self, if_false]
            by_cases h4 : k = 4
            · simp only [h4, if_true]
            · by_cases h6 : k = 6
              · subst h6; simp only [Int.reduceEq, if_true, if_false]
              · by_cases h7 : k = 7
                · subst h7; simp only [Int.reduceEq, if_true, if_false]
                · by_cases h8 : k = 8
                  · subst h8; simp only [Int.reduceEq, if_true, if_false]
                  · simp only [h4, h6, h7, h8, if_false]
                    simp only [mayF, h1, h2, h3, h4, h6, h7, h8, or_self, if_false] at hm
                    have h5 : k = 5 := by
                      by_cases c : k = 5
                      · exact c
                      · rw [if_neg c] at hm; cases hm
                    rw [if_pos h5] at hm
                    simp only [Bool.and_eq_true] at hm
                    rw [← parts_same hm.2]
                    exact hparts)
    refine Eq.trans this ?_
    congr 3
    split
    · rename_i hk3
      obtain ⟨k, t, v, ps, ks⟩ := f
      simp only at *
      simp only [condT]
      rw [if_pos hk3, condTs_map]
    · rfl
end
end Go.Proofs.YtcpidokhkcmdfaaGreat.B
