/- The tlvs that brooklaw1 makes of numbers may all be. Conditions: those of each theorem. -/
import Derived.Test.YtjlcmahknldjpaaBerI
import Derived.Test.YtjlcmahknldjpaaXBerx8
namespace Go.Proofs.Ytjlcmahknldjpaa.Pure
open Go.RowKit Go.Proofs.Ytjlcmahknldjpaa.XBer Go.Proofs.YtjlcmahknldjpaaV.PrintWords Go.Proofs.YtjlcmahknldjpaaV.PrintMore
set_option linter.unusedVariables false
set_option linter.unusedSimpArgs false

theorem tm {a b : Int} (h : 0 ≤ a) : Int.tmod a b = a % b := Int.tmod_eq_emod_of_nonneg h
theorem td {a b : Int} (h : 0 ≤ a) : Int.tdiv a b = a / b := Int.tdiv_eq_ediv_of_nonneg h
/-- so much content at most -/
def C : Nat → Int
  | 0 => 127
  | n + 1 => 4 * C n + 20
theorem C_pos : ∀ n, 127 ≤ C n
  | 0 => by simp [C]
  | n + 1 => by have := C_pos n; simp only [C]; omega
def Q (n : Nat) (t : S25) : Prop := ∀ d, n + 1 ≤ d → 0 ≤ lenS d t ∧ lenS d t ≤ C n
theorem lens_le {f : S25 → Int} {c : Int} : ∀ (l : List S25) (n : Int), 0 ≤ n → (∀ x ∈ l, 0 ≤ f x ∧ f x ≤ c) → n + l.length * (c + 5) ≤ 1048576 → 0 ≤ lens f n l ∧ lens f n l ≤ n + l.length * (c + 5)
  | [], n, h0, _, h1 => by simp only [List.length_nil] at h1; simp only [lens, List.length_nil]; split <;> omega
  | x :: r, n, h0, hf, h1 => by
    have hx := hf x (by simp)
    have hw := whole_bd hx.1
    have e : ((x :: r).length : Int) * (c + 5) = r.length * (c + 5) + (c + 5) := by
      rw [List.length_cons, Int.natCast_add, Int.add_mul]; omega
    have hr : 0 ≤ (r.length : Int) * (c + 5) := Int.mul_nonneg (by omega) (by omega)
    rw [e] at h1 ⊢
    simp only [lens]
    rw [if_neg (by omega), if_neg (by omega)]
    have := lens_le r (n + whole (f x)) (by omega) (fun y hy => hf y (List.mem_cons_of_mem _ hy)) (by omega)
    omega

theorem make_loop (n : Nat) (l : List Int) (s : ByteArray) (v : Int) (hv : 0 ≤ v) (hv2 : v < 256) (hl : l.length ≤ 1073741824) (hb : ∀ x ∈ l, 0 ≤ x ∧ x < 256) (hn : l.length ≤ n + 1 ∨ 5 ≤ n)
    (ih : ∀ l : List Int, (∀ x ∈ l, 0 ≤ x ∧ x < 256) → l.length ≤ n → ∃ t : S25, Ev (fun k => brooklaw1_Make.f k l s) (t.f0, t.f1, t.f2) ∧ Q n t) (tag : Int) :
    ∀ (m i : Nat) (acc : List S25), (v / 12 % 5 + 1 - i).toNat ≤ m → 1 ≤ i → acc.length ≤ i →
      ∃ ks : List S25, Ev (fun k => brooklaw1_Make.l0 k l s v (i : Int) tag ⟨#[]⟩ acc) (tag, ⟨#[]⟩, acc ++ ks) ∧ (∀ x ∈ ks, Q n x) ∧ ks.length ≤ m := by
  intro m
  induction m with
  | zero =>
    intro i acc hm hi ha
    refine ⟨[], ?_, by simp, by simp⟩
    refine ev_succ ?_
    simp only [brooklaw1_Make.l0]
    refine ev_ite (fun _ => ?_) (fun _ => ev_some (by simp))
    rw [td hv, w64 (x := v / 12) (by omega) (by omega), tm (by omega)]
    exact ev_ite (fun c => absurd c (by omega)) (fun _ => ev_some (by simp))
  | succ m ihm =>
    intro i acc hm hi ha
    by_cases c1 : (i : Int) < l.length
    · by_cases c2 : (i : Int) ≤ v / 12 % 5
      · have hmn : ∀ a b : Int, mn a b = if b < a then b else a := fun _ _ => rfl
        have e1 : wrap64 (wrap64 ((i : Int) + wrap64 (Int.tdiv v 60)) + 1) = i + v / 60 + 1 := by
          rw [td hv, w64 (x := v / 60) (by omega) (by omega), w64 (x := (i : Int) + v / 60) (by omega) (by omega), w64 (by omega) (by omega)]
        have e2 : mn (l.length : Int) (i + v / 60 + 1) ≤ l.length ∧ (i : Int) < mn (l.length : Int) (i + v / 60 + 1) ∧ mn (l.length : Int) (i + v / 60 + 1) ≤ i + 5 := by
          rw [hmn]
          split <;> omega
        obtain ⟨t, ht, hq⟩ := ih ((l.take (mn (l.length : Int) (i + v / 60 + 1)).toNat).drop (i : Int).toNat) (bd_drop (bd_take hb _) _) (by rw [List.length_drop, List.length_take]; omega)
        obtain ⟨ks, hk1, hk2, hk3⟩ := ihm (i + 1) (acc ++ [t]) (by omega) (by omega) (by simp; omega)
        refine ⟨t :: ks, ?_, ?_, by simp; omega⟩
        · refine ev_succ ?_
          simp only [brooklaw1_Make.l0]
          refine ev_ite (fun _ => ?_) (fun c => absurd c1 c)
          rw [e1]
          refine ev_ite (fun _ => ?_) (fun c => absurd (show (i : Int) ≤ Int.tmod (wrap64 (Int.tdiv v 12)) 5 by rw [td hv, w64 (x := v / 12) (by omega) (by omega), tm (by omega)]; exact c2) c)
          refine ev_ite (fun _ => ?_) (fun c => absurd (show (0 : Int) ≤ i by omega) c)
          refine ev_ite (fun _ => ?_) (fun c => absurd (show (i : Int) ≤ mn (l.length : Int) (i + v / 60 + 1) by omega) c)
          refine ev_ite (fun _ => ?_) (fun c => absurd e2.1 c)
          refine Ev.bind ht ?_
          refine ev_ite (fun _ => ?_) (fun c => absurd (show acc.length < 2932031007402 by omega) c)
          rw [w64 (x := (i : Int) + 1) (by omega) (by omega)]
          simp only [eta]
          simpa using hk1
        · intro x hx
          rcases List.mem_cons.1 hx with rfl | hx
          · exact hq
          · exact hk2 x hx
      · refine ⟨[], ?_, by simp, by simp⟩
        refine ev_succ ?_
        simp only [brooklaw1_Make.l0]
        refine ev_ite (fun _ => ?_) (fun _ => ev_some (by simp))
        rw [td hv, w64 (x := v / 12) (by omega) (by omega), tm (by omega)]
        exact ev_ite (fun c => absurd c (by omega)) (fun _ => ev_some (by simp))
    · refine ⟨[], ?_, by simp, by simp⟩
      refine ev_succ ?_
      simp only [brooklaw1_Make.l0]
      exact ev_ite (fun c => absurd c (by omega)) (fun _ => ev_some (by simp))

theorem leaf_Q (n : Nat) (tag : Int) (s : ByteArray) (h0 : 0 ≤ tag) (h1 : tag < 256) (h2 : tag % 32 ≠ 31) (h3 : tag / 32 % 2 = 0) (hs : s.size ≤ 127) : Q n ⟨tag, s, []⟩ := by
  intro d hd
  obtain ⟨sub, e⟩ := lenS_node d ⟨tag, s, []⟩
  have := C_pos n
  rw [e]
  unfold lenN
  simp only
  rw [if_neg (by omega), if_pos h3, if_pos trivial, if_neg (by omega)]
  omega
theorem node_Q (n : Nat) (tag : Int) (ks : List S25) (h0 : 0 ≤ tag) (h1 : tag < 256) (h2 : tag % 32 ≠ 31) (h3 : tag / 32 % 2 ≠ 0) (hk : ks.length ≤ 4) (hq : ∀ x ∈ ks, Q n x) (hn : n ≤ 5) : Q (n + 1) ⟨tag, ⟨#[]⟩, ks⟩ := by
  intro d hd
  obtain ⟨d, rfl⟩ : ∃ q, d = q + 1 := ⟨d - 1, by omega⟩
  show 0 ≤ lenN _ (some (lenS d)) ∧ lenN _ (some (lenS d)) ≤ _
  have hC : C n ≤ 136868 := by
    rcases (show n = 0 ∨ n = 1 ∨ n = 2 ∨ n = 3 ∨ n = 4 ∨ n = 5 by omega) with rfl | rfl | rfl | rfl | rfl | rfl <;> simp [C]
  have hp := C_pos n
  unfold lenN
  simp only
  rw [if_neg (by omega), if_neg h3, if_neg (by decide)]
  have hm : (ks.length : Int) * (C n + 5) ≤ 4 * (C n + 5) := Int.mul_le_mul_of_nonneg_right (by omega) (by omega)
  have := lens_le (f := lenS d) (c := C n) ks 0 (by omega) (fun x hx => hq x hx d (by omega)) (by omega)
  simp only [C]
  omega

theorem make_node (n : Nat) (hn5 : n ≤ 5) (l : List Int) (s : ByteArray) (hl : l.length ≤ 1073741824) (hb : ∀ x ∈ l, 0 ≤ x ∧ x < 256) (hn : l.length ≤ n + 1 ∨ 5 ≤ n)
    (ih : ∀ l : List Int, (∀ x ∈ l, 0 ≤ x ∧ x < 256) → l.length ≤ n → ∃ t : S25, Ev (fun k => brooklaw1_Make.f k l s) (t.f0, t.f1, t.f2) ∧ Q n t) :
    ∃ t : S25, Ev (fun k => brooklaw1_Make.f k l s) (t.f0, t.f1, t.f2) ∧ Q (n + 1) t := by
  by_cases h0 : l = []
  · refine ⟨⟨48, ⟨#[]⟩, []⟩, ?_, node_Q n 48 [] (by omega) (by omega) (by omega) (by omega) (by simp) (by simp) hn5⟩
    refine ev_succ ?_
    simp only [brooklaw1_Make.f]
    exact ev_ite (fun _ => ev_some rfl) (fun c => absurd (by rw [h0]; rfl) c)
  · obtain ⟨v, r, rfl⟩ := List.exists_cons_of_ne_nil h0
    obtain ⟨v0, v1⟩ := hb v (by simp)
    have hlen : ((v :: r).length : Int) = r.length + 1 := by simp
    have e : wrap64 (rd (v :: r) 0) = v := by
      rw [show rd (v :: r) 0 = v from rfl, w64 (by omega) (by omega)]
    by_cases c : v % 3 > 0
    · have htag : ∃ tag, rd [4, 2, 10, 128, 66, 30] (v / 3 % 6) = tag ∧ (tag = 4 ∨ tag = 2 ∨ tag = 10 ∨ tag = 128 ∨ tag = 66 ∨ tag = 30) := by
        rcases (show v / 3 % 6 = 0 ∨ v / 3 % 6 = 1 ∨ v / 3 % 6 = 2 ∨ v / 3 % 6 = 3 ∨ v / 3 % 6 = 4 ∨ v / 3 % 6 = 5 by omega) with h | h | h | h | h | h <;> rw [h] <;> exact ⟨_, rfl, by decide⟩
      obtain ⟨tag, ht1, ht2⟩ := htag
      have hmn : mn (s.size : Int) (v / 2) ≤ s.size ∧ 0 ≤ mn (s.size : Int) (v / 2) ∧ mn (s.size : Int) (v / 2) ≤ 127 := by
        rw [show mn (s.size : Int) (v / 2) = if v / 2 < (s.size : Int) then v / 2 else s.size from rfl]
        split <;> omega
      refine ⟨⟨tag, s.extract 0 (mn (s.size : Int) (v / 2)).toNat, []⟩, ?_, leaf_Q _ tag _ (by omega) (by omega) (by omega) (by omega) (by rw [ByteArray.size_extract]; omega)⟩
      refine ev_succ ?_
      simp only [brooklaw1_Make.f]
      refine ev_ite (fun c1 => absurd c1 (by omega)) (fun _ => ?_)
      refine ev_ite (fun _ => ?_) (fun c1 => absurd (show (0 : Int) < ((v :: r).length : Int) by omega) c1)
      rw [e, tm v0, td v0, td v0, w64 (x := v / 3) (by omega) (by omega), w64 (x := v / 2) (by omega) (by omega), tm (by omega)]
      refine ev_ite (fun _ => ?_) (fun c1 => absurd c c1)
      simp only [Option.bind_some]
      refine ev_ite (fun _ => ?_) (fun c1 => absurd (show 0 ≤ v / 3 % 6 by omega) c1)
      refine ev_ite (fun _ => ?_) (fun c1 => absurd (show v / 3 % 6 < 6 by omega) c1)
      refine ev_ite (fun _ => ?_) (fun c1 => absurd hmn.2.1 c1)
      exact ev_ite (fun _ => ev_some (by rw [ht1])) (fun c1 => absurd hmn.1 c1)
    · have htag : ∃ tag, rd [48, 49, 160, 96] (v / 3 % 4) = tag ∧ (tag = 48 ∨ tag = 49 ∨ tag = 160 ∨ tag = 96) := by
        rcases (show v / 3 % 4 = 0 ∨ v / 3 % 4 = 1 ∨ v / 3 % 4 = 2 ∨ v / 3 % 4 = 3 by omega) with h | h | h | h <;> rw [h] <;> exact ⟨_, rfl, by decide⟩
      obtain ⟨tag, ht1, ht2⟩ := htag
      obtain ⟨ks, hk1, hk2, hk3⟩ := make_loop n (v :: r) s v v0 v1 hl hb hn ih tag 4 1 [] (by omega) (by omega) (by simp)
      refine ⟨⟨tag, ⟨#[]⟩, ks⟩, ?_, node_Q n tag ks (by omega) (by omega) (by omega) (by omega) hk3 hk2 hn5⟩
      refine ev_succ ?_
      simp only [brooklaw1_Make.f]
      refine ev_ite (fun c1 => absurd c1 (by omega)) (fun _ => ?_)
      refine ev_ite (fun _ => ?_) (fun c1 => absurd (show (0 : Int) < ((v :: r).length : Int) by omega) c1)
      rw [e, tm v0, td v0, td v0, w64 (x := v / 3) (by omega) (by omega), w64 (x := v / 2) (by omega) (by omega), tm (b := 4) (by omega)]
      refine ev_ite (fun c1 => absurd c1 c) (fun _ => ?_)
      simp only [Option.bind_some]
      refine ev_ite (fun _ => ?_) (fun c1 => absurd (show 0 ≤ v / 3 % 4 by omega) c1)
      refine ev_ite (fun _ => ?_) (fun c1 => absurd (show v / 3 % 4 < 4 by omega) c1)
      rw [ht1]
      simpa using hk1

theorem make_small (s : ByteArray) : ∀ (n : Nat), n ≤ 6 → ∀ l : List Int, (∀ x ∈ l, 0 ≤ x ∧ x < 256) → l.length ≤ n → ∃ t : S25, Ev (fun k => brooklaw1_Make.f k l s) (t.f0, t.f1, t.f2) ∧ Q n t := by
  intro n
  induction n with
  | zero =>
    intro _ l hb hl
    obtain rfl : l = [] := List.eq_nil_of_length_eq_zero (by omega)
    refine ⟨⟨48, ⟨#[]⟩, []⟩, ?_, ?_⟩
    · refine ev_succ ?_
      simp only [brooklaw1_Make.f]
      exact ev_ite (fun _ => ev_some rfl) (fun c => absurd rfl c)
    · intro d hd
      obtain ⟨d, rfl⟩ : ∃ q, d = q + 1 := ⟨d - 1, by omega⟩
      · show 0 ≤ lenN _ (some (lenS d)) ∧ lenN _ (some (lenS d)) ≤ _
        have : (⟨#[]⟩ : ByteArray).size = 0 := rfl
        simp [lenN, lens, C, this]
  | succ n ih =>
    intro hn l hb hl
    exact make_node n (by omega) l s (by omega) hb (by omega) (ih (by omega))
theorem Make_eq (l : List Int) (s : ByteArray) (hl : l.length ≤ 1073741824) (hb : ∀ x ∈ l, 0 ≤ x ∧ x < 256) : ∃ t : S25, Ev (fun k => brooklaw1_Make.f k l s) (t.f0, t.f1, t.f2) ∧ 0 ≤ lenS 12 t := by
  obtain ⟨t, h1, h2⟩ := make_node 5 (by omega) l s hl hb (by omega) (make_small s 5 (by omega))
  exact ⟨t, h1, (h2 12 (by omega)).1⟩
end Go.Proofs.Ytjlcmahknldjpaa.Pure
