/- What package ber puts is read again, and whatever is read is put again. Conditions: those of each theorem. -/
import Derived.Test.YtjlcmahknldjpaaBerH
namespace Go.Proofs.Ytjlcmahknldjpaa.Pure
open Go.RowKit Go.Proofs.Ytjlcmahknldjpaa.XBer Go.Proofs.YtjlcmahknldjpaaV.PrintWords Go.Proofs.YtjlcmahknldjpaaV.PrintMore
set_option linter.unusedVariables false
set_option linter.unusedSimpArgs false

mutual
theorem wt_enc : ∀ x : S25, wt x ≤ (enc x).length
  | ⟨t, s, l⟩ => by
    have := wts_encs l
    simp only [wt, enc, List.length_cons, List.length_append]
    omega
theorem wts_encs : ∀ l : List S25, wts l ≤ (encs l).length
  | [] => by simp [wts]
  | x :: r => by
    have := wt_enc x
    have := wts_encs r
    simp only [wts, encs, List.length_append]
    omega
end
theorem enc_ne (x : S25) : enc x ≠ [] := by rw [enc_eq]; simp
theorem enc_pos (x : S25) : 0 < (enc x).length := List.length_pos_iff.2 (enc_ne x)
theorem wt_fit {sub : Option (S25 → Int)} {t : S25} (hf : Fit sub t) : wt t ≤ 1048581 := by
  have h1 := wt_enc t
  have h2 := enc_len t
  have h3 := whole_bd (n := (cont t).length) (by omega)
  have h4 := hf.len
  omega

/-! put, then read -/
theorem node_enc {sub : Option (S25 → Int)} {ps : Option (List Int → R)} {t : S25} (hf : Fit sub t)
    (hp : t.f0 / 32 % 2 ≠ 0 → ∃ p, ps = some p ∧ items p ((encs t.f2).length + 1) (encs t.f2) = some t.f2) (rest : List Int) :
    node (enc t ++ rest) ps = (0, t, ((enc t).length : Int)) := by
  have e : enc t ++ rest = t.f0 :: (lenb ((cont t).length : Int) ++ (cont t ++ rest)) := by
    rw [enc_eq, Int.emod_eq_of_lt hf.t0 hf.t1]; simp
  have h := hd_mk (t := t.f0) (n := (cont t).length) hf.t31 (by omega) hf.len (cont t ++ rest)
  rw [if_neg (by rw [List.length_append]; omega), ← e] at h
  have hbody : body (enc t ++ rest) = cont t := by
    unfold body
    rw [h]
    simp only
    rw [show ((1 : Int) + ((lenb ((cont t).length : Int)).length : Int)).toNat = (lenb ((cont t).length : Int)).length + 1 by omega, e, List.drop_succ_cons, List.drop_left, show ((cont t).length : Int).toNat = (cont t).length from rfl, List.take_left]
  have hlen : (1 : Int) + ((lenb ((cont t).length : Int)).length : Int) + ((cont t).length : Int) = ((enc t).length : Int) := by rw [enc_len]; rfl
  unfold node
  rw [hbody, h]
  simp only [if_true]
  rw [hlen]
  by_cases c : t.f0 / 32 % 2 = 0
  · rw [if_pos c]
    have hl := hf.leaf c
    have : cont t = bytesOf t.f1 := by unfold cont; rw [hl]; simp [encs]
    rw [this, strOf_by]
    rw [show (⟨t.f0, t.f1, []⟩ : S25) = t by rw [← hl]; exact eta t]
  · rw [if_neg c]
    obtain ⟨p, rfl, hi⟩ := hp c
    obtain ⟨hm, _⟩ := hf.made c
    have : cont t = encs t.f2 := by unfold cont; rw [hm]; simp [bytesOf]
    rw [this]
    simp only
    rw [hi]
    simp only
    rw [show (⟨t.f0, ⟨#[]⟩, t.f2⟩ : S25) = t by rw [← hm]; exact eta t]
theorem items_encs {p : List Int → R} : ∀ (l : List S25) (k : Nat), (∀ x ∈ l, ∀ rest, p (enc x ++ rest) = (0, x, ((enc x).length : Int))) → (encs l).length < k → items p k (encs l) = some l
  | [], k, _, hk => by
    obtain ⟨k, rfl⟩ : ∃ q, k = q + 1 := ⟨k - 1, by omega⟩
    exact items_nil p k
  | x :: r, k, h, hk => by
    obtain ⟨k, rfl⟩ : ∃ q, k = q + 1 := ⟨k - 1, by omega⟩
    have hpos := enc_pos x
    simp only [encs] at hk ⊢
    rw [List.length_append] at hk
    rw [items_cons p k (by simp [enc_ne x]), h x (by simp)]
    simp only [if_true]
    rw [show ((enc x).length : Int).toNat = (enc x).length from rfl, List.drop_left, items_encs r k (fun y hy => h y (List.mem_cons_of_mem _ hy)) (by omega)]
    rfl
theorem parse_enc : ∀ (d : Nat) (t : S25), 0 ≤ lenS d t → ∀ rest, parse d (enc t ++ rest) = (0, t, ((enc t).length : Int)) := by
  intro d
  induction d with
  | zero =>
    intro t h rest
    have hf := lenS_fit0 h
    exact node_enc hf (fun c => by obtain ⟨_, f, h1, _⟩ := hf.made c; cases h1) rest
  | succ d ih =>
    intro t h rest
    have hf := lenS_fit h
    refine node_enc hf (fun c => ⟨_, rfl, ?_⟩) rest
    obtain ⟨_, f, h1, h2⟩ := hf.made c
    cases h1
    exact items_encs t.f2 _ (fun x hx => ih x (h2 x hx)) (by omega)
/-! put, then cut -/
theorem parse_cut {d : Nat} {t : S25} (h : 0 ≤ lenS d t) (d2 : Nat) (cut : Nat) (hc : cut < (enc t).length) : parse d2 ((enc t).take cut) = (6, no, 0) := by
  obtain ⟨sub, hf⟩ := fit_any h
  obtain ⟨ps, e⟩ := parse_node d2 ((enc t).take cut)
  rw [e]
  have e2 : enc t = t.f0 :: (lenb ((cont t).length : Int) ++ cont t) := by rw [enc_eq, Int.emod_eq_of_lt hf.t0 hf.t1]
  have := hd_cut (t := t.f0) (n := (cont t).length) hf.t31 (by omega) hf.len (cont t) rfl cut (by rw [← e2]; exact hc)
  rw [← e2] at this
  unfold node
  rw [this]
  rfl
/-! read, then put -/
def Canon (p : List Int → R) : Prop := ∀ l, (∀ x ∈ l, 0 ≤ x ∧ x < 256) → (p l).1 = 0 → enc (p l).2.1 = l.take (p l).2.2.toNat
theorem items_canon {p : List Int → R} (hc : Canon p) (hg : Good p) : ∀ (k : Nat) (l : List Int) (ts : List S25), (∀ x ∈ l, 0 ≤ x ∧ x < 256) → items p k l = some ts → encs ts = l := by
  intro k
  induction k with
  | zero => intro l ts _ h; simp [items] at h
  | succ k ih =>
    intro l ts hb h
    by_cases hn : l = []
    · subst hn; rw [items_nil] at h; cases h; rfl
    · rw [items_cons p k hn] at h
      by_cases c : (p l).1 = 0
      · rw [if_pos c] at h
        cases hi : items p k (l.drop (p l).2.2.toNat) with
        | none => rw [hi] at h; cases h
        | some us =>
          rw [hi] at h
          cases h
          have := ih _ us (bd_drop hb _) hi
          simp only [encs]
          rw [this, hc l hb c, List.take_append_drop]
      · rw [if_neg c] at h; cases h
theorem node_canon (ps : Option (List Int → R)) (hs : ∀ p, ps = some p → Canon p ∧ Good p) : Canon (fun l => node l ps) := by
  intro l hb h
  simp only at h ⊢
  obtain ⟨h0, hm⟩ := node_ok hb h
  obtain ⟨hl, h31, hh⟩ := hd_only hb h0
  obtain ⟨t, q, hl2, e1, t0, t1, g2, g3, g4, g5⟩ := hd_ok hb h0
  rw [hm]
  have hbl : ((body l).length : Int) = (hd l).2.2.1 := by unfold body; rw [List.length_take, List.length_drop]; omega
  have htake : l.take ((hd l).2.1 + (hd l).2.2.1).toNat = (hd l).1 :: (lenb (hd l).2.2.1 ++ body l) := by
    have a : l.take ((hd l).2.1 + (hd l).2.2.1).toNat = l.take (hd l).2.1.toNat ++ body l := by
      unfold body
      rw [show ((hd l).2.1 + (hd l).2.2.1).toNat = (hd l).2.1.toNat + (hd l).2.2.1.toNat by omega, List.take_add]
    have b : l.take (hd l).2.1.toNat = (hd l).1 :: lenb (hd l).2.2.1 := by
      have e2 : (hd l).2.1.toNat = ((hd l).1 :: lenb (hd l).2.2.1).length := by rw [List.length_cons]; omega
      have hl3 : l = ((hd l).1 :: lenb (hd l).2.2.1) ++ l.drop (hd l).2.1.toNat := hl
      rw [e2] at hl3 ⊢
      generalize (hd l).1 :: lenb (hd l).2.2.1 = P at *
      rw [hl3, List.take_left]
    rw [a, b]
    simp
  rw [htake]
  have hbb : ∀ x ∈ body l, 0 ≤ x ∧ x < 256 := bd_take (bd_drop hb _) _
  unfold node at h ⊢
  rw [if_pos h0] at h ⊢
  by_cases c : (hd l).1 / 32 % 2 = 0
  · rw [if_pos c]
    simp only
    rw [enc_eq]
    unfold cont
    simp only [encs, List.append_nil]
    rw [by_strOf hbb, hbl, e1, Int.emod_eq_of_lt t0 t1]
  · rw [if_neg c] at h ⊢
    cases ps with
    | none => simp at h
    | some p =>
      simp only at h ⊢
      cases hi : items p ((body l).length + 1) (body l) with
      | none => rw [hi] at h; simp at h
      | some ts =>
        simp only
        obtain ⟨hc1, hc2⟩ := hs p rfl
        have := items_canon hc1 hc2 _ _ _ hbb hi
        rw [enc_eq]
        unfold cont
        simp only
        rw [this, show bytesOf (⟨#[]⟩ : ByteArray) = [] from rfl, List.nil_append, hbl, e1, Int.emod_eq_of_lt t0 t1]
theorem parse_canon : ∀ d : Nat, Canon (parse d) := by
  intro d
  induction d with
  | zero => exact node_canon none (fun p h => by cases h)
  | succ d ih => exact node_canon (some (parse d)) (fun p h => by cases h; exact ⟨ih, parse_good d⟩)
end Go.Proofs.Ytjlcmahknldjpaa.Pure
