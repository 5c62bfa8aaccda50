/- Of messages by numbers, those that search apart, all may be put. Conditions: those of each theorem; Facts of closed calls. -/
import Derived.Test.YtcpidokhkcmdfaaGreatNd
namespace Go.Proofs.YtcpidokhkcmdfaaGreat.B
open Go Go.Proofs Go.Proofs.YtcpidokhkcmdfaaGreat.I
set_option linter.unusedVariables false
set_option linter.unusedSimpArgs false
set_option maxRecDepth 100000
theorem ok_num (d : Nat) (t n : Int) (h : (decide (0 ≤ t) && decide (t ≤ 255) && decide (t % 32 ≠ 31) && decide (t / 32 % 2 = 0)) = true) : okT d (numT t n) = true := ok_leaf d t _ h
theorem ok_str (d : Nat) (s : List UInt8) : okT d (strT s) = true := ok_leaf d 4 s (by decide)
theorem ok_is (d : Nat) (b : Bool) : okT d (isT b) = true := ok_leaf d 1 _ (by decide)
theorem ok_strs (d : Nat) (t : Int) (l : List (List UInt8)) (h : (decide (0 ≤ t) && decide (t ≤ 255) && decide (t % 32 ≠ 31) && decide (t / 32 % 2 ≠ 0)) = true) : okT (d + 1) (strsT t l) = true := ok_node d t _ h fun x hx => by
  obtain ⟨s, _, rfl⟩ := List.mem_map.1 hx
  exact ok_str d s
theorem ok_attr (d : Nat) (t : List UInt8) (vs : List (List UInt8)) : okT (d + 2) (attrT t vs) = true := ok_node (d + 1) 48 _ (by decide) fun x hx => by
  rcases List.mem_cons.1 hx with rfl | hx
  · exact ok_str _ t
  · rw [List.mem_singleton.1 hx]; exact ok_strs d 49 vs (by decide)
theorem ok_body {m : Mg} (hk : kindB m = true) (h3 : m.k ≠ 3) : okT 11 (bodyT m) = true := by
  have hb := kind_bd hk
  unfold bodyT
  by_cases c1 : m.k = 1
  · rw [if_pos c1]
    refine ok_node 10 96 _ (by decide) fun x hx => ?_
    simp only [List.mem_cons, List.not_mem_nil, or_false] at hx
    rcases hx with rfl | rfl | rfl
    · exact ok_num _ _ _ (by decide)
    · exact ok_str _ _
    · exact ok_leaf _ _ _ (by decide)
  rw [if_neg c1]
  by_cases c2 : m.k = 2
  · rw [if_pos c2]; exact ok_leaf _ _ _ (by decide)
  rw [if_neg c2, if_neg h3]
  by_cases c4 : m.k = 4
  · rw [if_pos c4]
    refine ok_node 10 102 _ (by decide) fun x hx => ?_
    simp only [List.mem_cons, List.not_mem_nil, or_false] at hx
    rcases hx with rfl | rfl
    · exact ok_str _ _
    · refine ok_node 9 48 _ (by decide) fun y hy => ?_
      obtain ⟨a, _, rfl⟩ := List.mem_map.1 hy
      refine ok_node 8 48 _ (by decide) fun z hz => ?_
      simp only [List.mem_cons, List.not_mem_nil, or_false] at hz
      rcases hz with rfl | rfl
      · exact ok_num _ _ _ (by decide)
      · exact ok_attr 6 _ _
  rw [if_neg c4]
  have ent : ∀ (t : Int) (h : (decide (0 ≤ t) && decide (t ≤ 255) && decide (t % 32 ≠ 31) && decide (t / 32 % 2 ≠ 0)) = true), okT 11 (entryT t m.edn m.attrs) = true := by
    intro t h
    refine ok_node 10 t _ h fun x hx => ?_
    simp only [List.mem_cons, List.not_mem_nil, or_false] at hx
    rcases hx with rfl | rfl
    · exact ok_str _ _
    · refine ok_node 9 48 _ (by decide) fun y hy => ?_
      obtain ⟨a, _, rfl⟩ := List.mem_map.1 hy
      exact ok_attr 7 _ _
  by_cases c5 : m.k = 5
  · rw [if_pos c5]; exact ent 104 (by decide)
  rw [if_neg c5]
  by_cases c6 : m.k = 6
  · rw [if_pos c6]; exact ok_leaf _ _ _ (by decide)
  rw [if_neg c6]
  by_cases c7 : m.k = 7
  · rw [if_pos c7]
    refine ok_node 10 108 _ (by decide) fun x hx => ?_
    simp only [List.mem_cons, List.not_mem_nil, or_false] at hx
    rcases hx with rfl | rfl | rfl
    · exact ok_str _ _
    · exact ok_str _ _
    · exact ok_is _ _
  rw [if_neg c7]
  by_cases c8 : m.k = 8
  · rw [if_pos c8]
    refine ok_node 10 110 _ (by decide) fun x hx => ?_
    simp only [List.mem_cons, List.not_mem_nil, or_false] at hx
    rcases hx with rfl | rfl
    · exact ok_str _ _
    · exact ok_strs _ 48 _ (by decide)
  rw [if_neg c8]
  by_cases c9 : m.k = 9
  · rw [if_pos c9]; exact ok_num _ _ _ (by decide)
  rw [if_neg c9]
  by_cases c10 : m.k = 10
  · rw [if_pos c10]; exact ent 100 (by decide)
  rw [if_neg c10]
  have c11 : m.k = 11 := by omega
  have hd : 0 < doneK m.ofk := by
    unfold kindB at hk
    rw [if_neg (by omega), if_neg (by omega), if_neg (by omega), if_pos c11] at hk
    simp only [Bool.and_eq_true, decide_eq_true_eq] at hk
    exact hk.1
  refine ok_node 10 (doneK m.ofk) _ ?_ fun x hx => ?_
  · unfold doneK at hd ⊢
    repeat' (first | decide | (exact absurd hd (by decide)) | split)
    all_goals first | decide | (exfalso; simp_all)
  · rcases List.mem_append.1 hx with hx | hx
    · simp only [List.mem_cons, List.not_mem_nil, or_false] at hx
      rcases hx with rfl | rfl | rfl
      · exact ok_num _ _ _ (by decide)
      · exact ok_str _ _
      · exact ok_str _ _
    · split at hx
      · cases hx
      · rw [List.mem_singleton.1 hx]; exact ok_strs _ 163 _ (by decide)
/-- One that does not search, and is as its kind says, may be put. -/
theorem may_small {m : Mg} (hid : 0 ≤ m.id ∧ m.id < 256) (hk : kindB m = true) (h3 : m.k ≠ 3) (ho : onlyM m = m) (hs : sG m ≤ 12000) : mayM m = true := by
  have h1 : withinB m.id 2147483647 = true := by
    unfold withinB
    rw [decide_eq_true hid.1, decide_eq_true (by omega)]; rfl
  have hz := body_sz m
  have he := enc_le (bodyT m)
  have h4 : 0 ≤ lenS 12 (msgT m) := fit_msg (fit_ok 11 _ (ok_body hk h3) (by omega)) hs
  unfold mayM
  rw [h1, hk, eqB_iff.2 ho, decide_eq_true h4]
  rfl
end Go.Proofs.YtcpidokhkcmdfaaGreat.B
