/- The bytes that package ber puts are told again. Conditions: those of each theorem. -/
import Derived.Test.YtjlcmahknldjpaaBerG
namespace Go.Proofs.Ytjlcmahknldjpaa.Pure
open Go.RowKit Go.Proofs.Ytjlcmahknldjpaa.XBer Go.Proofs.YtjlcmahknldjpaaV.PrintWords Go.Proofs.YtjlcmahknldjpaaV.PrintMore
set_option linter.unusedVariables false
set_option linter.unusedSimpArgs false

theorem enc_len (x : S25) : ((enc x).length : Int) = whole ((cont x).length : Int) := by
  rw [enc_eq]
  simp only [List.length_cons, List.length_append, whole]
  omega
theorem lens_sum (f : S25 → Int) : ∀ (l : List S25) (n : Int), 0 ≤ lens f n l → (∀ x ∈ l, 0 ≤ f x → f x = (cont x).length) → lens f n l = n + (encs l).length ∧ (∀ x ∈ l, 0 ≤ f x) ∧ n + (encs l).length ≤ 1048576
  | [], n, h, _ => by
    simp only [lens] at h ⊢
    split at h
    · omega
    · rename_i c
      rw [if_neg c]
      simp [encs]
      omega
  | x :: r, n, h, hf => by
    simp only [lens] at h ⊢
    split at h
    · omega
    · rename_i c
      split at h
      · omega
      · rename_i c2
        obtain ⟨h1, h2, h3⟩ := lens_sum f r _ h (fun y hy => hf y (List.mem_cons_of_mem _ hy))
        have h4 := hf x (by simp) (by omega)
        rw [if_neg c, if_neg c2]
        have h5 := enc_len x
        rw [← h4] at h5
        refine ⟨?_, ?_, ?_⟩
        · rw [h1]; simp only [encs, List.length_append]; omega
        · intro y hy
          rcases List.mem_cons.1 hy with rfl | hy
          · omega
          · exact h2 y hy
        · simp only [encs, List.length_append]; omega
/-- what may be: its content's length, its tag, its parts -/
structure Fit (sub : Option (S25 → Int)) (t : S25) : Prop where
  len : ((cont t).length : Int) ≤ 1048576
  t0 : 0 ≤ t.f0
  t1 : t.f0 < 256
  t31 : t.f0 % 32 ≠ 31
  leaf : t.f0 / 32 % 2 = 0 → t.f2 = []
  made : t.f0 / 32 % 2 ≠ 0 → t.f1 = ⟨#[]⟩ ∧ ∃ f, sub = some f ∧ ∀ x ∈ t.f2, 0 ≤ f x
theorem size0 {s : ByteArray} (h : ¬ 0 < s.size) : s = ⟨#[]⟩ := by
  refine by_inj ?_
  have : (bytesOf s).length = 0 := by rw [by_len]; omega
  rw [List.eq_nil_of_length_eq_zero this]
  rfl
theorem lenN_fit {t : S25} {sub : Option (S25 → Int)} (hs : ∀ f, sub = some f → ∀ x ∈ t.f2, 0 ≤ f x → f x = (cont x).length) (h : 0 ≤ lenN t sub) : lenN t sub = (cont t).length ∧ Fit sub t := by
  unfold lenN at h ⊢
  by_cases c : t.f0 < 0 ∨ 255 < t.f0 ∨ t.f0 % 32 = 31
  · rw [if_pos c] at h; omega
  · rw [if_neg c] at h ⊢
    by_cases c2 : t.f0 / 32 % 2 = 0
    · rw [if_pos c2] at h ⊢
      by_cases c3 : t.f2 = []
      · rw [if_pos c3] at h ⊢
        by_cases c4 : 1048576 < (t.f1.size : Int)
        · rw [if_pos c4] at h; omega
        · rw [if_neg c4]
          have e : ((cont t).length : Int) = t.f1.size := by unfold cont; rw [c3]; simp [encs, by_len]
          exact ⟨e.symm, ⟨by omega, by omega, by omega, by omega, fun _ => c3, fun h2 => absurd c2 h2⟩⟩
      · rw [if_neg c3] at h; omega
    · rw [if_neg c2] at h ⊢
      by_cases c3 : 0 < t.f1.size
      · rw [if_pos c3] at h; omega
      · rw [if_neg c3] at h ⊢
        have e1 := size0 c3
        cases sub with
        | none => simp at h
        | some f =>
          simp only at h ⊢
          obtain ⟨h1, h2, h3⟩ := lens_sum f t.f2 0 h (hs f rfl)
          have e : ((cont t).length : Int) = (encs t.f2).length := by unfold cont; rw [e1]; simp [bytesOf]
          refine ⟨by rw [h1, e]; omega, ⟨by omega, by omega, by omega, by omega, fun h4 => absurd h4 c2, fun _ => ⟨e1, f, rfl, h2⟩⟩⟩
theorem lenS_len : ∀ (d : Nat) (t : S25), 0 ≤ lenS d t → lenS d t = (cont t).length := by
  intro d
  induction d with
  | zero => intro t h; exact (lenN_fit (fun f hf => by cases hf) h).1
  | succ d ih => intro t h; exact (lenN_fit (sub := some (lenS d)) (fun f hf x _ hx => by cases hf; exact ih x hx) h).1
theorem lenS_fit0 {t : S25} (h : 0 ≤ lenS 0 t) : Fit none t := (lenN_fit (fun f hf => by cases hf) h).2
theorem lenS_fit {d : Nat} {t : S25} (h : 0 ≤ lenS (d + 1) t) : Fit (some (lenS d)) t := (lenN_fit (sub := some (lenS d)) (fun f hf x _ hx => by cases hf; exact lenS_len d x hx) h).2
theorem fit_any {d : Nat} {t : S25} (h : 0 ≤ lenS d t) : ∃ sub, Fit sub t := by
  cases d with
  | zero => exact ⟨_, lenS_fit0 h⟩
  | succ d => exact ⟨_, lenS_fit h⟩
theorem enc_bd {d : Nat} : ∀ {t : S25}, 0 ≤ lenS d t → ∀ x ∈ enc t, 0 ≤ x ∧ x < 256 := by
  induction d with
  | zero =>
    intro t h x hx
    have hf := lenS_fit0 h
    rw [enc_eq] at hx
    rcases List.mem_cons.1 hx with rfl | hx
    · omega
    · rcases List.mem_append.1 hx with hx | hx
      · exact lenb_bd (by omega) hf.len x hx
      · unfold cont at hx
        rw [List.mem_append] at hx
        rcases hx with hx | hx
        · exact by_bd _ x hx
        · by_cases c : t.f0 / 32 % 2 = 0
          · rw [hf.leaf c] at hx; simp [encs] at hx
          · obtain ⟨_, f, h1, _⟩ := hf.made c; cases h1
  | succ d ih =>
    intro t h x hx
    have hf := lenS_fit h
    rw [enc_eq] at hx
    rcases List.mem_cons.1 hx with rfl | hx
    · omega
    · rcases List.mem_append.1 hx with hx | hx
      · exact lenb_bd (by omega) hf.len x hx
      · unfold cont at hx
        rw [List.mem_append] at hx
        rcases hx with hx | hx
        · exact by_bd _ x hx
        · by_cases c : t.f0 / 32 % 2 = 0
          · rw [hf.leaf c] at hx; simp [encs] at hx
          · obtain ⟨_, f, h1, h2⟩ := hf.made c
            cases h1
            have : ∀ l : List S25, (∀ y ∈ l, 0 ≤ lenS d y) → ∀ x ∈ encs l, 0 ≤ x ∧ x < 256 := by
              intro l
              induction l with
              | nil => intro _ x hx; simp [encs] at hx
              | cons y r ihl =>
                intro hy x hx
                simp only [encs, List.mem_append] at hx
                rcases hx with hx | hx
                · exact ih (hy y (by simp)) x hx
                · exact ihl (fun z hz => hy z (List.mem_cons_of_mem _ hz)) x hx
            exact this t.f2 h2 x hx

/-! the program puts these bytes -/
theorem put_l1 (c : List Int) (n : Int) (hn : n = c.length) (h1 : n ≤ 1048576) : ∀ (m : Nat) (acc : List Int), m ≤ 3 → (acc.length : Int) + m ≤ 1099511627790 → ∀ k, m + 2 ≤ k →
    ber_put.l1 k acc c n ((m : Int) - 1) = some (acc ++ (if m = 0 then [] else if m = 1 then [n % 256] else if m = 2 then [n / 256 % 256, n % 256] else [n / 65536 % 256, n / 256 % 256, n % 256]) ++ c) := by
  intro m
  induction m with
  | zero =>
    intro acc _ ha k hk
    obtain ⟨k, rfl⟩ : ∃ q, k = q + 1 := ⟨k - 1, by omega⟩
    simp only [ber_put.l1]
    rw [if_neg (by omega)]
    rw [if_pos (by omega)]
    simp
  | succ m ih =>
    intro acc hm ha k hk
    obtain ⟨k, rfl⟩ : ∃ q, k = q + 1 := ⟨k - 1, by omega⟩
    simp only [ber_put.l1]
    rw [show ((m + 1 : Nat) : Int) - 1 = (m : Int) by omega]
    rw [if_pos (by omega), w64 (x := 8 * (m : Int)) (by omega) (by omega), if_pos (by omega), if_pos (by omega), w64 (x := (m : Int) - 1) (by omega) (by omega)]
    rw [ih _ (by omega) (by simp only [List.length_append, List.length_cons, List.length_nil]; omega) k (by clear ih; omega)]
    have hs : shr .i64 n (8 * (m : Int)) = if m = 0 then n else if m = 1 then n / 256 else n / 65536 := by
      unfold shr
      rcases (show m = 0 ∨ m = 1 ∨ m = 2 by omega) with rfl | rfl | rfl
      · simp
      · rfl
      · rfl
    rw [hs]
    rcases (show m = 0 ∨ m = 1 ∨ m = 2 by omega) with rfl | rfl | rfl
    · simp
    · simp
    · simp

theorem put_end (acc c : List Int) (l : List S25) (t : Int) (s : ByteArray) (q : List S25) (j : Int) (hj : j = l.length) (h1 : (c.length : Int) ≤ 1048576) (ha : (acc.length : Int) ≤ 1099511627776) (k : Nat) (hk : 10 ≤ k) :
    ber_put.l0 k acc c l (l.length : Int) j t s q = some (acc ++ (t % 256) :: (lenb (c.length : Int) ++ c)) := by
  obtain ⟨k, rfl⟩ : ∃ q, k = q + 1 := ⟨k - 1, by omega⟩
  simp only [ber_put.l0]
  rw [if_neg (by omega), if_pos (by omega)]
  simp only [Option.bind_some]
  by_cases c1 : (c.length : Int) < 128
  · rw [if_pos c1, if_pos (by simp only [List.length_append, List.length_cons, List.length_nil]; omega)]
    rw [if_pos (by simp only [List.length_append, List.length_cons, List.length_nil]; omega), lenb_1 c1, Int.emod_eq_of_lt (a := (c.length : Int)) (by omega) (by omega)]
    simp
  · rw [if_neg c1, size_eq _ (by omega) (by omega) k (by omega)]
    simp only [Option.bind_some]
    rw [if_pos (by simp only [List.length_append, List.length_cons, List.length_nil]; omega)]
    by_cases c2 : (c.length : Int) < 256
    · rw [if_pos c2, w64 (x := 128 + 1) (by omega) (by omega), w64 (x := 1 - 1) (by omega) (by omega)]
      have := put_l1 c (c.length : Int) rfl h1 1 (acc ++ [t % 256] ++ [(128 + 1) % 256]) (by omega) (by simp only [List.length_append, List.length_cons, List.length_nil]; omega) k (by omega)
      rw [show ((1 : Nat) : Int) - 1 = 1 - 1 from rfl] at this
      rw [this, lenb_2 c1 c2, Int.emod_eq_of_lt (a := (c.length : Int)) (by omega) (by omega)]
      simp
    · rw [if_neg c2]
      by_cases c3 : (c.length : Int) < 65536
      · rw [if_pos c3, w64 (x := 128 + 2) (by omega) (by omega), w64 (x := 2 - 1) (by omega) (by omega)]
        have := put_l1 c (c.length : Int) rfl h1 2 (acc ++ [t % 256] ++ [(128 + 2) % 256]) (by omega) (by simp only [List.length_append, List.length_cons, List.length_nil]; omega) k (by omega)
        rw [show ((2 : Nat) : Int) - 1 = 2 - 1 from rfl] at this
        rw [this, lenb_3 c2 c3, Int.emod_eq_of_lt (a := (c.length : Int) / 256) (by omega) (by omega)]
        simp
      · rw [if_neg c3, w64 (x := 128 + 3) (by omega) (by omega), w64 (x := 3 - 1) (by omega) (by omega)]
        have := put_l1 c (c.length : Int) rfl h1 3 (acc ++ [t % 256] ++ [(128 + 3) % 256]) (by omega) (by simp only [List.length_append, List.length_cons, List.length_nil]; omega) k (by omega)
        rw [show ((3 : Nat) : Int) - 1 = 3 - 1 from rfl] at this
        rw [this, lenb_4 c3, Int.emod_eq_of_lt (a := (c.length : Int) / 65536) (by omega) (by omega)]
        simp

theorem put_loop (l : List S25) (ih : ∀ x ∈ l, ∀ acc : List Int, (acc.length : Int) ≤ 1099511627776 → Ev (fun k => ber_put.f k acc x.f0 x.f1 x.f2) (acc ++ enc x)) (acc : List Int) (ha : (acc.length : Int) ≤ 1099511627776) (t : Int) (s : ByteArray) (q : List S25) (hl : l.length ≤ 1073741824) :
    ∀ (m j : Nat) (c : List Int), l.length - j ≤ m → j ≤ l.length → ((c ++ encs (l.drop j)).length : Int) ≤ 1048576 → Ev (fun k => ber_put.l0 k acc c l (l.length : Int) (j : Int) t s q) (acc ++ (t % 256) :: (lenb ((c ++ encs (l.drop j)).length : Int) ++ (c ++ encs (l.drop j)))) := by
  intro m
  induction m with
  | zero =>
    intro j c hj hj2 hc
    rw [List.drop_eq_nil_of_le (by omega)] at hc ⊢
    simp only [encs, List.append_nil] at hc ⊢
    exact ⟨10, fun k hk => put_end acc c l t s q j (by omega) hc ha k hk⟩
  | succ m ihm =>
    intro j c hj hj2 hc
    by_cases hlt : j < l.length
    · rw [List.drop_eq_getElem_cons hlt] at hc ⊢
      simp only [encs, ← List.append_assoc] at hc ⊢
      have := ihm (j + 1) (c ++ enc l[j]) (by omega) (by omega) hc
      refine ev_succ ?_
      simp only [ber_put.l0]
      refine ev_ite (fun _ => ?_) (fun c2 => absurd (show (j : Int) < (l.length : Int) by omega) c2)
      refine ev_ite (fun _ => ?_) (fun c2 => absurd (show (0 : Int) ≤ (j : Int) by omega) c2)
      refine ev_ite (fun _ => ?_) (fun c2 => absurd (show (j : Int) < (l.length : Int) by omega) c2)
      rw [rd_at l j hlt, w64 (x := (j : Int) + 1) (by omega) (by omega)]
      refine Ev.bind (ih _ (List.getElem_mem _) c (by simp only [List.length_append] at hc; omega)) ?_
      simp only [List.append_assoc] at this ⊢
      exact this
    · rw [List.drop_eq_nil_of_le (by omega)] at hc ⊢
      simp only [encs, List.append_nil] at hc ⊢
      exact ⟨10, fun k hk => put_end acc c l t s q j (by omega) hc ha k hk⟩

theorem put_node {sub : Option (S25 → Int)} {t : S25} (hf : Fit sub t) (ht : wt t ≤ 1073741824) (ih : ∀ x ∈ t.f2, ∀ acc : List Int, (acc.length : Int) ≤ 1099511627776 → Ev (fun k => ber_put.f k acc x.f0 x.f1 x.f2) (acc ++ enc x))
    (acc : List Int) (ha : (acc.length : Int) ≤ 1099511627776) : Ev (fun k => ber_put.f k acc t.f0 t.f1 t.f2) (acc ++ enc t) := by
  have hw := wt_eq t
  have hl := wts_len t.f2
  have hlen := hf.len
  refine ev_succ ?_
  simp only [ber_put.f]
  have h1 : (bytesOf t.f1).length ≤ (cont t).length := by unfold cont; simp
  rw [by_len] at h1
  refine ev_ite (fun _ => ?_) (fun c => absurd (show t.f1.size ≤ 9223372036854775807 by omega) c)
  have := put_loop t.f2 ih acc ha t.f0 t.f1 t.f2 (by omega) t.f2.length 0 (bytesOf t.f1) (by omega) (by omega) (by rw [List.drop_zero]; exact hlen)
  rw [List.drop_zero] at this
  rw [enc_eq]
  exact this
theorem put_eq : ∀ (d : Nat) (t : S25), 0 ≤ lenS d t → wt t ≤ 1073741824 → ∀ acc : List Int, (acc.length : Int) ≤ 1099511627776 → Ev (fun k => ber_put.f k acc t.f0 t.f1 t.f2) (acc ++ enc t) := by
  intro d
  induction d with
  | zero =>
    intro t h ht
    have hf := lenS_fit0 h
    refine put_node hf ht ?_
    intro x hx
    by_cases c : t.f0 / 32 % 2 = 0
    · rw [hf.leaf c] at hx; cases hx
    · obtain ⟨_, f, h1, _⟩ := hf.made c; cases h1
  | succ d ih =>
    intro t h ht
    have hf := lenS_fit h
    refine put_node hf ht ?_
    intro x hx
    by_cases c : t.f0 / 32 % 2 = 0
    · rw [hf.leaf c] at hx; cases hx
    · obtain ⟨_, f, h1, h2⟩ := hf.made c
      cases h1
      exact ih x (h2 x hx) (by have := wt_mem _ _ hx; have := wt_eq t; omega)

theorem May_eq (t : S25) (ht : wt t ≤ 1073741824) : Ev (fun k => ber_May.f k t.f0 t.f1 t.f2) (decide (0 ≤ lenS 12 t)) := by
  unfold ber_May.f
  exact Ev.bind (length_eq 12 (by omega) t ht) (ev_some rfl)
theorem Put_eq (t : S25) (ht : wt t ≤ 1073741824) : Ev (fun k => ber_Put.f k t.f0 t.f1 t.f2) (if 0 ≤ lenS 12 t then strOfNums (enc t) else ⟨#[]⟩) := by
  unfold ber_Put.f
  refine Ev.bind (May_eq t ht) ?_
  by_cases c : 0 ≤ lenS 12 t
  · rw [if_pos c]
    refine ev_ite (fun _ => ?_) (fun c2 => absurd (decide_eq_true c) c2)
    have := put_eq 12 t c ht [] (by simp)
    exact Ev.bind this (ev_some rfl)
  · rw [if_neg c]
    exact ev_ite (fun c2 => absurd (of_decide_eq_true c2) c) (fun _ => ev_some rfl)
end Go.Proofs.Ytjlcmahknldjpaa.Pure
