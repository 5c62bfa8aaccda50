/- What comes of bytes on a line, in plain data: messages, what is left, whether it is over; behind a cut the same comes. Conditions: those of each theorem. -/
import Derived.Test.YtejgmifipdcneaaTu
namespace Go.Proofs.Ytejgmifipdcneaa.B
open Go Go.Proofs Go.Proofs.Ytejgmifipdcneaa.I
set_option linter.unusedVariables false
set_option linter.unusedSimpArgs false
set_option maxRecDepth 100000
theorem told_sz {s : List UInt8} {m : Mg} (h : Told s m) : sG m ≤ 1073741824 := by
  have h1 := parse_sz s
  have h2 := told_parse h []
  rw [List.append_nil] at h2
  rw [h2] at h1
  have h3 := rdM_sz (msgT m)
  rw [rdM_msg h.1] at h3
  have h4 := told_len h
  have h5 : wt (msgT m) ≤ s.length + 1 := h1.1
  have h6 : lenW (msgT m) ≤ s.length := h1.2
  omega
theorem hd_more {l r : List Int} (h : (hd l).2.2.2 ≠ 6) : hd (l ++ r) = hd l := by
  match l, h with
  | [], h => exact absurd rfl h
  | t :: q, h =>
    by_cases c31 : t % 32 = 31
    · simp [hd, c31]
    match q, h with
    | [], h => simp [hd, c31] at h
    | b :: q, h =>
      simp only [hd, c31, if_false, List.cons_append, List.length_append] at h ⊢
      by_cases c1 : b < 128
      · simp only [c1, if_true] at h ⊢
        by_cases c2 : (q.length : Int) < b
        · rw [if_pos c2] at h; exact absurd rfl h
        · rw [if_neg c2, if_neg (by omega)]
      · simp only [c1, if_false] at h ⊢
        by_cases c2 : b = 128 ∨ 131 < b
        · rw [if_pos c2, if_pos c2]
        · rw [if_neg c2] at h ⊢
          rw [if_neg c2]
          by_cases c3 : (q.length : Int) < b - 128
          · rw [if_pos c3] at h; exact absurd rfl h
          · rw [if_neg c3] at h ⊢
            rw [if_neg (by omega)]
            have ht : (q ++ r).take (b - 128).toNat = q.take (b - 128).toNat := List.take_append_of_le_length (by omega)
            have hh : (q ++ r).headD 0 = q.headD 0 := by
              cases q with
              | nil => exfalso; simp at c3; omega
              | cons x y => rfl
            rw [ht, hh]
            by_cases c4 : q.headD 0 = 0 ∨ num (q.take (b - 128).toNat) < 128 ∨ 1048576 < num (q.take (b - 128).toNat)
            · rw [if_pos c4, if_pos c4]
            · rw [if_neg c4] at h ⊢
              rw [if_neg c4]
              by_cases c5 : (q.length : Int) - (b - 128) < num (q.take (b - 128).toNat)
              · rw [if_pos c5] at h; exact absurd rfl h
              · rw [if_neg c5, if_neg (by omega)]
theorem hd_le (l : List Int) : (hd l).2.1 ≤ 5 := by
  match l with
  | [] => simp [hd]
  | t :: q =>
    by_cases c31 : t % 32 = 31
    · simp [hd, c31]
    match q with
    | [] => simp [hd, c31]
    | b :: q =>
      simp only [hd, c31, if_false]
      by_cases c1 : b < 128
      · simp only [c1, if_true]
        split <;> simp
      · simp only [c1, if_false]
        by_cases c2 : b = 128 ∨ 131 < b
        · rw [if_pos c2]; simp
        · rw [if_neg c2]
          split
          · simp
          · split
            · simp
            · split
              · simp
              · simp only []; omega
theorem parse_more {d : Nat} {l r : List Int} (hb : ∀ x ∈ l, 0 ≤ x ∧ x < 256) (h : (parse d l).1 ≠ 6) : parse d (l ++ r) = parse d l := by
  obtain ⟨sub, hp⟩ : ∃ sub, ∀ l, parse d l = node l sub := by
    cases d with
    | zero => exact ⟨none, fun _ => rfl⟩
    | succ d => exact ⟨some (parse d), fun _ => rfl⟩
  rw [hp, hp]
  rw [hp] at h
  have h6 : (hd l).2.2.2 ≠ 6 := by
    intro e
    apply h
    unfold node
    rw [if_neg (by rw [e]; decide), e]
  have he := hd_more (r := r) h6
  by_cases c : (hd l).2.2.2 = 0
  · obtain ⟨t, q, _, _, _, _, h2, h3, h4, _⟩ := hd_ok hb c
    have hbody : body (l ++ r) = body l := by
      unfold body
      rw [he, List.drop_append_of_le_length (by omega), List.take_append_of_le_length (by rw [List.length_drop]; omega)]
    unfold node
    rw [he, hbody]
  · unfold node
    rw [he, if_neg c, if_neg c]
/-! reading at the front of bytes -/
def pE (s : List UInt8) : Int := (parse 12 (bytesOf s)).1
def pLn (s : List UInt8) : Nat := (parse 12 (bytesOf s)).2.2.toNat
theorem pE_nil : pE [] = 6 := rfl
theorem parse_ok {s : List UInt8} (h : pE s = 0) : 2 ≤ pLn s ∧ pLn s ≤ s.length ∧ (parse 12 (bytesOf s)).2.2 = (pLn s : Int) ∧ pLn s ≤ 1048581 := by
  have hg := parse_good 12 (bytesOf s) (by_bd s) h
  rw [by_len] at hg
  obtain ⟨sub, e⟩ := parse_node 12 (bytesOf s)
  have h' : (node (bytesOf s) sub).1 = 0 := by rw [← e]; exact h
  obtain ⟨h1, h2⟩ := node_ok (by_bd s) h'
  obtain ⟨_, _, _, _, _, _, _, h3, _, h4⟩ := hd_ok (by_bd s) h1
  have h5 := hd_le (bytesOf s)
  rw [← e] at h2
  unfold pLn
  rw [h2] at hg ⊢
  omega
theorem pE_app {s r : List UInt8} (h : pE s ≠ 6) : pE (s ++ r) = pE s ∧ pLn (s ++ r) = pLn s := by
  unfold pE pLn
  rw [by_append, parse_more (by_bd s) h]
  exact ⟨rfl, rfl⟩
open Classical in
/-- The message that bytes tell. -/
noncomputable def toldOf (s : List UInt8) : Option Mg := if h : ∃ m, Told s m then some h.choose else none
theorem toldOf_yes {s : List UInt8} {m : Mg} (h : Told s m) : toldOf s = some m := by
  unfold toldOf
  have hx : ∃ m, Told s m := ⟨m, h⟩
  rw [dif_pos hx, told_one hx.choose_spec h]
theorem toldOf_no {s : List UInt8} (h : ∀ m, ¬ Told s m) : toldOf s = none := by
  unfold toldOf
  rw [dif_neg]
  rintro ⟨m, hm⟩
  exact h m hm
theorem toldOf_some {s : List UInt8} {m : Mg} (h : toldOf s = some m) : Told s m := by
  unfold toldOf at h
  split at h
  · rename_i hx; injection h with h; subst h; exact hx.choose_spec
  · cases h
/-- What comes: messages; what is left; 0 it waits, 1 it is over, 2 it was let go. -/
noncomputable def feed : Nat → List UInt8 → List Mg × List UInt8 × Nat
  | 0, s => ([], s, 0)
  | k + 1, s => if pE s = 6 then ([], s, 0) else if pE s = 0 then (match toldOf (s.take (pLn s)) with
      | none => ([], [], 1)
      | some m => if 9 < m.k then ([], [], 1) else if m.k = 2 then ([m], [], 2) else (m :: (feed k (s.drop (pLn s))).1, (feed k (s.drop (pLn s))).2)) else ([], [], 1)
theorem feed_more : ∀ (k k' : Nat) (s : List UInt8), s.length ≤ k → s.length ≤ k' → feed k s = feed k' s := by
  intro k
  induction k with
  | zero =>
    intro k' s h h'
    have : s = [] := List.length_eq_zero_iff.1 (by omega)
    subst this
    cases k' with
    | zero => rfl
    | succ k' => simp [feed, pE_nil]
  | succ k ih =>
    intro k' s h h'
    cases k' with
    | zero =>
      have : s = [] := List.length_eq_zero_iff.1 (by omega)
      subst this
      simp [feed, pE_nil]
    | succ k' =>
      simp only [feed]
      by_cases c6 : pE s = 6
      · rw [if_pos c6, if_pos c6]
      · rw [if_neg c6, if_neg c6]
        by_cases c0 : pE s = 0
        · rw [if_pos c0, if_pos c0]
          obtain ⟨h1, h2, _, _⟩ := parse_ok c0
          have hl : (s.drop (pLn s)).length = s.length - pLn s := List.length_drop
          rw [ih k' (s.drop (pLn s)) (by omega) (by omega)]
        · rw [if_neg c0, if_neg c0]
/-- All that comes of bytes. -/
noncomputable def fed (s : List UInt8) : List Mg × List UInt8 × Nat := feed s.length s
theorem fed_eq (s : List UInt8) : fed s = if pE s = 6 then ([], s, 0) else if pE s = 0 then (match toldOf (s.take (pLn s)) with
      | none => ([], [], 1)
      | some m => if 9 < m.k then ([], [], 1) else if m.k = 2 then ([m], [], 2) else (m :: (fed (s.drop (pLn s))).1, (fed (s.drop (pLn s))).2)) else ([], [], 1) := by
  unfold fed
  rw [feed_more s.length (s.length + 1) s (by omega) (by omega)]
  simp only [feed]
  by_cases c6 : pE s = 6
  · rw [if_pos c6, if_pos c6]
  · rw [if_neg c6, if_neg c6]
    by_cases c0 : pE s = 0
    · rw [if_pos c0, if_pos c0]
      have hl : (s.drop (pLn s)).length = s.length - pLn s := List.length_drop
      rw [feed_more s.length (s.drop (pLn s)).length (s.drop (pLn s)) (by omega) (by omega)]
    · rw [if_neg c0, if_neg c0]
theorem fed_len (s : List UInt8) : (fed s).1.length ≤ s.length ∧ (fed s).2.1.length ≤ s.length := by
  suffices H : ∀ (k : Nat) (s : List UInt8), s.length ≤ k → (fed s).1.length ≤ s.length ∧ (fed s).2.1.length ≤ s.length from H _ s (Nat.le_refl _)
  intro k
  induction k with
  | zero =>
    intro s h
    have : s = [] := List.length_eq_zero_iff.1 (by omega)
    subst this
    rw [fed_eq]; simp [pE_nil]
  | succ k ih =>
    intro s h
    rw [fed_eq]
    by_cases c6 : pE s = 6
    · rw [if_pos c6]; simp
    rw [if_neg c6]
    by_cases c0 : pE s = 0
    · rw [if_pos c0]
      obtain ⟨h1, h2, _, _⟩ := parse_ok c0
      have hl : (s.drop (pLn s)).length = s.length - pLn s := List.length_drop
      have := ih (s.drop (pLn s)) (by omega)
      cases toldOf (s.take (pLn s)) with
      | none => simp
      | some m =>
        simp only []
        split
        · simp
        · split
          · simp; omega
          · simp only [List.length_cons]; omega
    · rw [if_neg c0]; simp
/-- What is left waits. -/
theorem fed_rest (s : List UInt8) : (fed s).2.2 = 0 → pE (fed s).2.1 = 6 := by
  suffices H : ∀ (k : Nat) (s : List UInt8), s.length ≤ k → (fed s).2.2 = 0 → pE (fed s).2.1 = 6 from H _ s (Nat.le_refl _)
  intro k
  induction k with
  | zero =>
    intro s h
    have : s = [] := List.length_eq_zero_iff.1 (by omega)
    subst this
    rw [fed_eq]; simp [pE_nil]
  | succ k ih =>
    intro s h
    rw [fed_eq]
    by_cases c6 : pE s = 6
    · rw [if_pos c6]; intro _; exact c6
    rw [if_neg c6]
    by_cases c0 : pE s = 0
    · rw [if_pos c0]
      obtain ⟨h1, h2, _, _⟩ := parse_ok c0
      have hl : (s.drop (pLn s)).length = s.length - pLn s := List.length_drop
      have := ih (s.drop (pLn s)) (by omega)
      cases toldOf (s.take (pLn s)) with
      | none => simp
      | some m =>
        simp only []
        split
        · simp
        · split
          · simp
          · exact this
    · rw [if_neg c0]; simp
/-- Behind a cut the same comes. -/
theorem fed_app (s r : List UInt8) : fed (s ++ r) = if (fed s).2.2 = 0 then ((fed s).1 ++ (fed ((fed s).2.1 ++ r)).1, (fed ((fed s).2.1 ++ r)).2) else fed s := by
  suffices H : ∀ (k : Nat) (s : List UInt8), s.length ≤ k → fed (s ++ r) = if (fed s).2.2 = 0 then ((fed s).1 ++ (fed ((fed s).2.1 ++ r)).1, (fed ((fed s).2.1 ++ r)).2) else fed s from H _ s (Nat.le_refl _)
  intro k
  induction k with
  | zero =>
    intro s h
    have : s = [] := List.length_eq_zero_iff.1 (by omega)
    subst this
    rw [show fed [] = ([], [], 0) by rw [fed_eq]; simp [pE_nil]]
    simp
  | succ k ih =>
    intro s h
    by_cases c6 : pE s = 6
    · rw [show fed s = ([], s, 0) by rw [fed_eq, if_pos c6]]
      simp
    obtain ⟨e1, e2⟩ := pE_app (r := r) c6
    by_cases c0 : pE s = 0
    · obtain ⟨h1, h2, _, _⟩ := parse_ok c0
      have hl : (s.drop (pLn s)).length = s.length - pLn s := List.length_drop
      have ih' := ih (s.drop (pLn s)) (by omega)
      rw [fed_eq (s ++ r), e1, e2, if_neg c6, if_pos c0, List.take_append_of_le_length h2, List.drop_append_of_le_length h2, fed_eq s, if_neg c6, if_pos c0]
      cases ht : toldOf (s.take (pLn s)) with
      | none => simp
      | some m =>
        simp only []
        by_cases c9 : 9 < m.k
        · simp [c9]
        · by_cases c2 : m.k = 2
          · simp [c2]
          · simp only [c9, c2, if_false, ih']
            by_cases cz : (fed (s.drop (pLn s))).2.2 = 0
            · simp [cz]
            · simp [cz]
    · rw [fed_eq (s ++ r), e1, if_neg c6, if_neg c0, fed_eq s, if_neg c6, if_neg c0]
      simp
end Go.Proofs.Ytejgmifipdcneaa.B
