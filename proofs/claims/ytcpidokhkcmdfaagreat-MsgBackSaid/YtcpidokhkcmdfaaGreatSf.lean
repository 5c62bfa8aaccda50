/- The bytes that package ber puts; what the reference lets be and puts: the same. Conditions: those of each theorem. -/
import Derived.Test.YtcpidokhkcmdfaaGreatSe
namespace Go.Proofs.YtcpidokhkcmdfaaGreat.B
open Go Go.Proofs Go.Proofs.YtcpidokhkcmdfaaGreat.I
set_option linter.unusedVariables false
set_option linter.unusedSimpArgs false
theorem shr_8 (n : Int) (m : Nat) (hm : m ≤ 2) : shrv .i64 n (IntKind.wrap .i64 (8 * (m : Int))) = if m = 0 then n else if m = 1 then n / 256 else n / 65536 := by
  rw [w64 (by omega) (by omega)]
  unfold shrv
  rcases (show m = 0 ∨ m = 1 ∨ m = 2 by omega) with rfl | rfl | rfl
  · show n.fdiv 1 = n
    simp
  · show n.fdiv 256 = n / 256
    rw [Int.fdiv_eq_ediv_of_nonneg _ (by omega)]
  · show n.fdiv 65536 = n / 65536
    rw [Int.fdiv_eq_ediv_of_nonneg _ (by omega)]
theorem mxv_bd (a b : Int) : a ≤ mxv a b ∧ b ≤ mxv a b ∧ (mxv a b = a ∨ mxv a b = b) := by
  unfold mxv
  split
  · exact ⟨by omega, by omega, .inr rfl⟩
  · exact ⟨by omega, by omega, .inl rfl⟩
mutual
/-- how long a tlv's content is and how deep it is, as the reference tells it -/
def szR : Tlv → Int × Int
  | ⟨t, s, l⟩ => if t < 0 ∨ 255 < t ∨ t % 32 = 31 ∨ (t / 32 % 2 = 0 ∧ l ≠ []) ∨ (t / 32 % 2 ≠ 0 ∧ s ≠ []) then (-1, 0) else szL s.length (if t / 32 % 2 = 0 then 0 else 1) l
def szL : Int → Int → List Tlv → Int × Int
  | n, e, [] => if 1048576 < n then (-1, 0) else (n, e)
  | n, e, x :: r => if (szR x).1 < 0 ∨ 12 ≤ (szR x).2 then (-1, 0) else szL (n + whole (szR x).1) (mxv e ((szR x).2 + 1)) r
end
theorem szR_eq (x : Tlv) : szR x = if x.f0 < 0 ∨ 255 < x.f0 ∨ x.f0 % 32 = 31 ∨ (x.f0 / 32 % 2 = 0 ∧ x.f2 ≠ []) ∨ (x.f0 / 32 % 2 ≠ 0 ∧ x.f1 ≠ []) then (-1, 0) else szL x.f1.length (if x.f0 / 32 % 2 = 0 then 0 else 1) x.f2 := by cases x; rfl
theorem szL_bd : ∀ (l : List Tlv) (n e : Int), 0 ≤ n → 0 ≤ e → e ≤ 12 → 0 ≤ (szL n e l).1 → n ≤ (szL n e l).1 ∧ (szL n e l).1 ≤ 1048576 ∧ e ≤ (szL n e l).2 ∧ (szL n e l).2 ≤ 12
  | [], n, e, h0, h1, h2, h => by
    simp only [szL] at h ⊢
    split at h
    · omega
    · rename_i c
      rw [if_neg c]
      exact ⟨by simp only; omega, by simp only; omega, by simp only; omega, by simp only; omega⟩
  | x :: r, n, e, h0, h1, h2, h => by
    simp only [szL] at h ⊢
    split at h
    · omega
    · rename_i c
      rw [if_neg c]
      have hw := whole_bd (n := (szR x).1) (by omega)
      have hm := mxv_bd e ((szR x).2 + 1)
      have := szL_bd r (n + whole (szR x).1) (mxv e ((szR x).2 + 1)) (by omega) (by omega) (by omega) h
      obtain ⟨g1, g2, g3, g4⟩ := this
      exact ⟨by omega, g2, by omega, g4⟩
theorem szR_bd (x : Tlv) (h : 0 ≤ (szR x).1) : (szR x).1 ≤ 1048576 ∧ 0 ≤ (szR x).2 ∧ (szR x).2 ≤ 12 := by
  rw [szR_eq] at h ⊢
  split at h
  · omega
  · rename_i c
    rw [if_neg c]
    have := szL_bd x.f2 x.f1.length (if x.f0 / 32 % 2 = 0 then 0 else 1) (by omega) (by split <;> omega) (by split <;> omega) h
    refine ⟨this.2.1, ?_, this.2.2.2⟩
    have := this.2.2.1
    split at this <;> omega
theorem szR_up : ∀ (x : Tlv), (szR x).1 ≤ 1048576 := fun x => by
  by_cases h : 0 ≤ (szR x).1
  · exact (szR_bd x h).1
  · omega
/-- what the reference lets be, package ber lets be -/
theorem szL_len {d : Nat} : ∀ (l : List Tlv) (n e : Int), (∀ x ∈ l, 0 ≤ (szR x).1 → (szR x).2 ≤ d → lenS d x = (szR x).1) → 0 ≤ n → 0 ≤ e → e ≤ 12 → 0 ≤ (szL n e l).1 → (szL n e l).2 ≤ d + 1 → lens (lenS d) n l = (szL n e l).1
  | [], n, e, ih, h0, h1, h2, h, hd => by
    simp only [szL] at h ⊢
    simp only [lens]
    split <;> rfl
  | x :: r, n, e, ih, h0, h1, h2, h, hd => by
    simp only [szL] at h hd ⊢
    split at h
    · omega
    · rename_i c
      rw [if_neg c] at hd ⊢
      have hw := whole_bd (n := (szR x).1) (by omega)
      have hb := szR_bd x (by omega)
      have hm := mxv_bd e ((szR x).2 + 1)
      have he0 : (0 : Int) ≤ (mxv e ((szR x).2 + 1)) := by omega
      have he1 : (mxv e ((szR x).2 + 1)) ≤ (12 : Int) := by omega
      obtain ⟨g1, g2, g3, g4⟩ := szL_bd r (n + whole (szR x).1) _ (by omega) he0 he1 h
      have hx : (szR x).2 ≤ d := by omega
      have e1 := ih x (by simp) (by omega) hx
      simp only [lens]
      rw [e1, if_neg (by omega), if_neg (by omega)]
      exact szL_len r _ _ (fun y hy => ih y (List.mem_cons_of_mem _ hy)) (by omega) he0 he1 h hd
theorem szR_len : ∀ (d : Nat) (x : Tlv), 0 ≤ (szR x).1 → (szR x).2 ≤ d → lenS d x = (szR x).1 := by
  have leaf : ∀ (x : Tlv) sub, x.f0 / 32 % 2 = 0 → 0 ≤ (szR x).1 → lenN x sub = (szR x).1 := by
    intro x sub c h
    rw [szR_eq] at h ⊢
    split at h
    · omega
    · rename_i c1
      rw [if_neg c1]
      rw [if_pos c]
      have hl : x.f2 = [] := by
        by_cases e : x.f2 = []
        · exact e
        · exact absurd (.inr (.inr (.inr (.inl ⟨c, e⟩)))) c1
      unfold lenN
      rw [if_neg (by omega), if_pos c, if_pos hl, hl]
      simp only [szL]
      split <;> rfl
  intro d
  induction d with
  | zero =>
    intro x h hd
    by_cases c : x.f0 / 32 % 2 = 0
    · exact leaf x none c h
    · exfalso
      have h0 := h
      rw [szR_eq] at h hd
      split at h
      · omega
      · rename_i c1
        rw [if_neg c1, if_neg c] at hd
        have := (szL_bd x.f2 x.f1.length 1 (by omega) (by omega) (by omega) h).2.2.1
        omega
  | succ d ih =>
    intro x h hd
    by_cases c : x.f0 / 32 % 2 = 0
    · exact leaf x _ c h
    · rw [szR_eq] at h hd ⊢
      split at h
      · omega
      · rename_i c1
        rw [if_neg c1, if_neg c] at hd ⊢
        have hs : x.f1 = [] := by
          by_cases e : x.f1 = []
          · exact e
          · exact absurd (.inr (.inr (.inr (.inr ⟨c, e⟩)))) c1
        have := szL_len (d := d) x.f2 x.f1.length 1 (fun y _ hy hy2 => ih y hy hy2) (by omega) (by omega) (by omega) h (by omega)
        show lenN x (some (lenS d)) = _
        unfold lenN
        rw [if_neg (by omega), if_neg c, if_neg (by rw [hs]; simp)]
        rw [hs] at this ⊢
        exact this
/-- and the other way round -/
theorem len_szL {d : Nat} (hd : d ≤ 11) : ∀ (l : List Tlv) (n e : Int), (∀ x ∈ l, 0 ≤ lenS d x → (szR x).1 = lenS d x ∧ (szR x).2 ≤ d) → 0 ≤ n → e ≤ d + 1 → 0 ≤ lens (lenS d) n l → (szL n e l).1 = lens (lenS d) n l ∧ (szL n e l).2 ≤ d + 1
  | [], n, e, ih, h0, h1, h => by
    simp only [lens] at h ⊢
    simp only [szL]
    split at h
    · omega
    · rename_i c
      rw [if_neg c, if_neg c]
      exact ⟨rfl, h1⟩
  | x :: r, n, e, ih, h0, h1, h => by
    simp only [lens] at h ⊢
    split at h
    · omega
    · rename_i c
      split at h
      · omega
      · rename_i c2
        obtain ⟨g1, g2⟩ := ih x (by simp) (by omega)
        have hw := whole_bd (n := lenS d x) (by omega)
        rw [if_neg c, if_neg c2]
        simp only [szL]
        rw [if_neg (by omega), g1]
        have hm := mxv_bd e ((szR x).2 + 1)
        exact len_szL hd r _ _ (fun y hy => ih y (List.mem_cons_of_mem _ hy)) (by omega) (by omega) h
theorem len_szR : ∀ (d : Nat), d ≤ 12 → ∀ x : Tlv, 0 ≤ lenS d x → (szR x).1 = lenS d x ∧ (szR x).2 ≤ d := by
  have leaf : ∀ (x : Tlv) sub, x.f0 / 32 % 2 = 0 → 0 ≤ lenN x sub → (szR x).1 = lenN x sub ∧ (szR x).2 ≤ 0 := by
    intro x sub c h
    unfold lenN at h ⊢
    split at h
    · omega
    · rename_i c1
      rw [if_neg c1, if_pos c]
      split at h
      · rename_i c2
        rw [if_pos c2, szR_eq, if_neg (by intro h; rcases h with h | h | h | ⟨_, h⟩ | ⟨h, _⟩ <;> first | omega | exact h c2 | exact h c), c2]
        simp only [szL]
        split at h
        · omega
        · rename_i c3
          rw [if_neg c3, if_neg c3, if_pos c]
          exact ⟨rfl, by simp⟩
      · omega
  intro d
  induction d with
  | zero =>
    intro _ x h
    by_cases c : x.f0 / 32 % 2 = 0
    · have := leaf x none c h
      exact ⟨this.1, by have := this.2; omega⟩
    · exfalso
      have h : 0 ≤ lenN x none := h
      unfold lenN at h
      rw [if_neg c] at h
      split at h
      · omega
      · split at h <;> simp at h
  | succ d ih =>
    intro hd x h
    by_cases c : x.f0 / 32 % 2 = 0
    · have := leaf x (some (lenS d)) c h
      exact ⟨this.1, by have := this.2; omega⟩
    · have h : 0 ≤ lenN x (some (lenS d)) := h
      show (szR x).1 = lenN x (some (lenS d)) ∧ _
      unfold lenN at h ⊢
      split at h
      · omega
      · rename_i c1
        rw [if_neg c1, if_neg c]
        split at h
        · omega
        · rename_i c2
          rw [if_neg c2]
          simp only at h ⊢
          have hs : x.f1 = [] := List.eq_nil_of_length_eq_zero (by omega)
          rw [szR_eq, if_neg (by intro h; rcases h with h | h | h | ⟨h, _⟩ | ⟨_, h⟩ <;> first | omega | exact h hs | exact c h), if_neg c, hs]
          have := len_szL (d := d) (by omega) x.f2 0 1 (fun y _ hy => ih (by omega) y hy) (by omega) (by omega) h
          exact ⟨this.1, by have := this.2; simp only [List.length_nil, Int.natCast_zero]; omega⟩
theorem may_iff (x : Tlv) : 0 ≤ lenS 12 x ↔ 0 ≤ (szR x).1 := by
  constructor
  · intro h; rw [(len_szR 12 (by omega) x h).1]; exact h
  · intro h; rw [szR_len 12 x h (by have := (szR_bd x h).2.2; omega)]; exact h
/-- the parts of what may be -/
theorem szL_all : ∀ (l : List Tlv) (n e : Int), 0 ≤ (szL n e l).1 → ∀ x ∈ l, 0 ≤ (szR x).1
  | x :: r, n, e, h, y, hy => by
    simp only [szL] at h
    split at h
    · omega
    · rename_i c
      rcases List.mem_cons.1 hy with rfl | hy
      · omega
      · exact szL_all r _ _ h y hy
  | [], n, e, h, y, hy => by cases hy
theorem szR_all (x : Tlv) (h : 0 ≤ (szR x).1) : ∀ y ∈ x.f2, 0 ≤ (szR y).1 := by
  rw [szR_eq] at h
  split at h
  · omega
  · exact szL_all _ _ _ h
theorem szR_cont (x : Tlv) (h : 0 ≤ (szR x).1) : (szR x).1 = (cont x).length := by
  rw [(len_szR 12 (by omega) x ((may_iff x).2 h)).1]
  exact lenS_len 12 x ((may_iff x).2 h)
end Go.Proofs.YtcpidokhkcmdfaaGreat.B
