/- What package ber lets be, and the bytes that it puts, by lists of numbers. Conditions: those of each theorem. -/
import Derived.Test.YtjlcmahknldjpaaBerF
import Derived.Test.YtjlcmahknldjpaaVMore
namespace Go.Proofs.Ytjlcmahknldjpaa.Pure
open Go.RowKit Go.Proofs.Ytjlcmahknldjpaa.XBer Go.Proofs.YtjlcmahknldjpaaV.PrintWords Go.Proofs.YtjlcmahknldjpaaV.PrintMore
set_option linter.unusedVariables false
set_option linter.unusedSimpArgs false

mutual
/-- a tlv's bytes -/
def enc : S25 → List Int
  | ⟨t, s, l⟩ => (t % 256) :: (lenb ((bytesOf s ++ encs l).length : Int) ++ (bytesOf s ++ encs l))
def encs : List S25 → List Int
  | [] => []
  | x :: r => enc x ++ encs r
end
def cont (x : S25) : List Int := bytesOf x.f1 ++ encs x.f2
theorem enc_eq (x : S25) : enc x = (x.f0 % 256) :: (lenb ((cont x).length : Int) ++ cont x) := by cases x; rfl
theorem encs_append : ∀ a b : List S25, encs (a ++ b) = encs a ++ encs b
  | [], b => by simp [encs]
  | x :: r, b => by simp only [List.cons_append, encs, encs_append r b, List.append_assoc]

/-- how long it is in all -/
def whole (n : Int) : Int := 1 + ((lenb n).length : Int) + n
def lens (f : S25 → Int) : Int → List S25 → Int
  | n, [] => if 1048576 < n then -1 else n
  | n, x :: r => if f x < 0 then -1 else if 1048576 < n + whole (f x) then -1 else lens f (n + whole (f x)) r
def lenN (t : S25) (sub : Option (S25 → Int)) : Int :=
  if t.f0 < 0 ∨ 255 < t.f0 ∨ t.f0 % 32 = 31 then -1
  else if t.f0 / 32 % 2 = 0 then (if t.f2 = [] then (if 1048576 < (t.f1.size : Int) then -1 else t.f1.size) else -1)
  else if 0 < t.f1.size then -1 else match sub with
    | none => -1
    | some f => lens f 0 t.f2
/-- how long a tlv's content is, so deep at most; below 0: it may not be -/
def lenS : Nat → S25 → Int
  | 0, t => lenN t none
  | d + 1, t => lenN t (some (lenS d))

theorem size_eq (n : Int) (h0 : 0 ≤ n) (h1 : n ≤ 16777215) (k : Nat) (hk : 5 ≤ k) : ber_size.f k n = some (if n < 256 then 1 else if n < 65536 then 2 else 3) := by
  obtain ⟨m, rfl⟩ : ∃ m, k = m + 5 := ⟨k - 5, by omega⟩
  unfold ber_size.f
  simp only [ber_size.l0]
  by_cases c : n < 256
  · rw [if_pos c, if_neg (by omega)]
  · rw [if_neg c, if_pos (by omega), w64 (x := 1 + 1) (by omega) (by omega)]
    by_cases c2 : n < 65536
    · rw [if_pos c2, if_neg (by omega)]; rfl
    · rw [if_neg c2, if_pos (by omega), w64 (x := 1 + 1 + 1) (by omega) (by omega), if_neg (by omega)]; rfl
theorem whole_eq (n : Int) (h0 : 0 ≤ n) (h1 : n ≤ 1048576) (k : Nat) (hk : 5 ≤ k) : ber_whole.f k n = some (whole n) := by
  unfold ber_whole.f whole
  rw [lenb_len]
  by_cases c : n < 128
  · rw [if_pos c, if_pos c, w64 (by omega) (by omega)]
    congr 1
  · rw [if_neg c, if_neg c, size_eq n h0 (by omega) k hk]
    simp only [Option.bind_some]
    by_cases c2 : n < 256
    · rw [if_pos c2, if_pos c2, w64 (x := 2 + 1) (by omega) (by omega), w64 (by omega) (by omega)]
      congr 1
    · rw [if_neg c2, if_neg c2]
      by_cases c3 : n < 65536
      · rw [if_pos c3, if_pos c3, w64 (x := 2 + 2) (by omega) (by omega), w64 (by omega) (by omega)]
        congr 1
      · rw [if_neg c3, if_neg c3, w64 (x := 2 + 3) (by omega) (by omega), w64 (by omega) (by omega)]
        congr 1
theorem whole_bd {n : Int} (h0 : 0 ≤ n) : 0 ≤ whole n ∧ whole n ≤ n + 5 := by
  unfold whole
  rw [lenb_len]
  split
  · omega
  · split
    · omega
    · split <;> omega

theorem lens_bd (f : S25 → Int) : ∀ (l : List S25) (n : Int), lens f n l ≤ 1048576
  | [], n => by simp only [lens]; split <;> omega
  | x :: r, n => by
    simp only [lens]
    split
    · omega
    · split
      · omega
      · exact lens_bd f r _
theorem lenN_bd (t : S25) (sub : Option (S25 → Int)) : lenN t sub ≤ 1048576 := by
  unfold lenN
  split
  · omega
  · split
    · split
      · split <;> omega
      · omega
    · split
      · omega
      · cases sub with
        | none => simp
        | some f => exact lens_bd f _ _
theorem lenS_node (d : Nat) (t : S25) : ∃ sub, lenS d t = lenN t sub := by
  cases d with
  | zero => exact ⟨none, rfl⟩
  | succ d => exact ⟨some (lenS d), rfl⟩
theorem lenS_bd (d : Nat) (t : S25) : lenS d t ≤ 1048576 := by
  obtain ⟨sub, e⟩ := lenS_node d t
  rw [e]
  exact lenN_bd t sub

theorem length_loop (d : Nat) (hd1 : d ≤ 100) (l : List S25) (hl : l.length ≤ 1073741824) (ih : ∀ x ∈ l, Ev (fun k => ber_length.f k x.f0 x.f1 x.f2 d) (lenS d x)) :
    ∀ (m j : Nat) (n : Int), l.length - j ≤ m → j ≤ l.length → 0 ≤ n → n ≤ 1048576 → Ev (fun k => ber_length.l0 k ((d : Int) + 1) n l (l.length : Int) (j : Int)) (lens (lenS d) n (l.drop j)) := by
  intro m
  induction m with
  | zero =>
    intro j n hj hj2 h0 h1
    refine ev_succ ?_
    simp only [ber_length.l0]
    refine ev_ite (fun c => absurd c (by omega)) (fun _ => ?_)
    rw [List.drop_eq_nil_of_le (by omega)]
    simp only [lens]
    exact ev_ite (fun c => absurd c (by omega)) (fun _ => ev_some (by rw [if_neg (by omega)]))
  | succ m ihm =>
    intro j n hj hj2 h0 h1
    by_cases hlt : j < l.length
    · refine ev_succ ?_
      simp only [ber_length.l0]
      refine ev_ite (fun _ => ?_) (fun c => absurd (show (j : Int) < (l.length : Int) by omega) c)
      refine ev_ite (fun _ => ?_) (fun c => absurd (show (0 : Int) ≤ (j : Int) by omega) c)
      refine ev_ite (fun _ => ?_) (fun c => absurd (show (j : Int) < (l.length : Int) by omega) c)
      rw [rd_at l j hlt, List.drop_eq_getElem_cons hlt, w64 (x := (d : Int) + 1 - 1) (by omega) (by omega), show (d : Int) + 1 - 1 = d by omega]
      refine Ev.bind (ih _ (List.getElem_mem _)) ?_
      have hb := lenS_bd d l[j]
      simp only [lens]
      by_cases c : lenS d l[j] < 0
      · rw [if_pos c]
        exact ev_ite (fun _ => ev_some rfl) (fun c2 => absurd c c2)
      · rw [if_neg c]
        refine ev_ite (fun c2 => absurd c2 c) (fun _ => ?_)
        refine Ev.bind ⟨5, fun k hk => whole_eq _ (by omega) hb k hk⟩ ?_
        have hw := whole_bd (n := lenS d l[j]) (by omega)
        rw [w64 (x := n + whole (lenS d l[j])) (by omega) (by omega)]
        by_cases c3 : 1048576 < n + whole (lenS d l[j])
        · rw [if_pos c3]
          exact ev_ite (fun _ => ev_some rfl) (fun c2 => absurd c3 c2)
        · rw [if_neg c3]
          refine ev_ite (fun c2 => absurd c2 c3) (fun _ => ?_)
          rw [w64 (x := (j : Int) + 1) (by omega) (by omega)]
          exact ihm (j + 1) _ (by omega) (by omega) (by omega) (by omega)
    · refine ev_succ ?_
      simp only [ber_length.l0]
      refine ev_ite (fun c => absurd c (by omega)) (fun _ => ?_)
      rw [List.drop_eq_nil_of_le (by omega)]
      simp only [lens]
      exact ev_ite (fun c => absurd c (by omega)) (fun _ => ev_some (by rw [if_neg (by omega)]))

theorem length_eq : ∀ (d : Nat), d ≤ 100 → ∀ t : S25, wt t ≤ 1073741824 → Ev (fun k => ber_length.f k t.f0 t.f1 t.f2 d) (lenS d t) := by
  intro d
  induction d with
  | zero =>
    intro _ t ht
    show Ev _ (lenN t none)
    refine ev_succ ?_
    simp only [ber_length.f]
    unfold lenN
    by_cases c0 : t.f0 < 0
    · rw [if_pos (.inl c0)]
      refine ev_ite (fun _ => ev_succ ?_) (fun c => absurd c0 c)
      simp only [ber_length.j0, if_true]
      exact ev_some rfl
    · refine ev_ite (fun c => absurd c c0) (fun _ => ?_)
      by_cases c1 : t.f0 > 255
      · rw [if_pos (.inr (.inl c1))]
        refine ev_ite (fun _ => ev_succ ?_) (fun c => absurd c1 c)
        simp only [ber_length.j0, if_true]
        exact ev_some rfl
      · refine ev_ite (fun c => absurd c c1) (fun _ => ev_succ ?_)
        rw [and31 (by omega) (by omega)]
        by_cases c2 : t.f0 % 32 = 31
        · rw [if_pos (.inr (.inr c2))]
          simp only [ber_length.j0, c2, beq_self_eq_true, if_true]
          exact ev_some rfl
        · rw [if_neg (by omega)]
          have : (t.f0 % 32 == 31) = false := by rw [beq_eq_false_iff_ne]; exact c2
          simp only [ber_length.j0, this, Bool.false_eq_true, if_false]
          rw [and32 (by omega) (by omega)]
          by_cases c3 : t.f0 / 32 % 2 = 0
          · rw [if_pos c3]
            refine ev_ite (fun _ => ev_succ ?_) (fun c => absurd (show t.f0 / 32 % 2 * 32 = 0 by omega) c)
            by_cases c4 : t.f2 = []
            · rw [if_pos c4]
              have : decide ((t.f2.length : Int) > 0) = false := decide_eq_false (by rw [c4]; simp)
              simp only [ber_length.j1, this, Bool.false_eq_true, if_false]
              rw [and32 (by omega) (by omega)]
              refine ev_ite (fun _ => ev_succ ?_) (fun c => absurd (show t.f0 / 32 % 2 * 32 = 0 by omega) c)
              simp only [ber_length.j2]
              refine ev_succ ?_
              simp only [ber_length.l0]
              refine ev_ite (fun c => absurd c (by rw [c4]; simp)) (fun _ => ?_)
              exact ev_ite (fun c => ev_some (by rw [if_pos c])) (fun c => ev_some (by rw [if_neg (by omega)]))
            · rw [if_neg c4]
              have : decide ((t.f2.length : Int) > 0) = true := decide_eq_true (by
                cases h : t.f2 with
                | nil => exact absurd h c4
                | cons => simp only [List.length_cons]; omega)
              simp only [ber_length.j1, this, if_true]
              exact ev_some rfl
          · rw [if_neg c3]
            refine ev_ite (fun c => absurd (show t.f0 / 32 % 2 = 0 by omega) c3) (fun _ => ev_succ ?_)
            simp only [ber_length.j1, Bool.false_eq_true, if_false]
            rw [and32 (by omega) (by omega)]
            refine ev_ite (fun c => absurd (show t.f0 / 32 % 2 = 0 by omega) c3) (fun _ => ?_)
            by_cases c4 : 0 < t.f1.size
            · rw [if_pos c4]
              exact ev_ite (fun _ => ev_some rfl) (fun c => absurd (show (t.f1.size : Int) > 0 by omega) c)
            · rw [if_neg c4]
              refine ev_ite (fun c => absurd c (by omega)) (fun _ => ?_)
              exact ev_ite (fun _ => ev_some rfl) (fun c => absurd (show ((0 : Nat) : Int) < 1 by omega) c)
  | succ d ih =>
    intro hd1 t ht
    have hwt := wt_eq t
    have hln := wts_len t.f2
    show Ev _ (lenN t (some (lenS d)))
    refine ev_succ ?_
    simp only [ber_length.f]
    unfold lenN
    by_cases c0 : t.f0 < 0
    · rw [if_pos (.inl c0)]
      refine ev_ite (fun _ => ev_succ ?_) (fun c => absurd c0 c)
      simp only [ber_length.j0, if_true]
      exact ev_some rfl
    · refine ev_ite (fun c => absurd c c0) (fun _ => ?_)
      by_cases c1 : t.f0 > 255
      · rw [if_pos (.inr (.inl c1))]
        refine ev_ite (fun _ => ev_succ ?_) (fun c => absurd c1 c)
        simp only [ber_length.j0, if_true]
        exact ev_some rfl
      · refine ev_ite (fun c => absurd c c1) (fun _ => ev_succ ?_)
        rw [and31 (by omega) (by omega)]
        by_cases c2 : t.f0 % 32 = 31
        · rw [if_pos (.inr (.inr c2))]
          simp only [ber_length.j0, c2, beq_self_eq_true, if_true]
          exact ev_some rfl
        · rw [if_neg (by omega)]
          have : (t.f0 % 32 == 31) = false := by rw [beq_eq_false_iff_ne]; exact c2
          simp only [ber_length.j0, this, Bool.false_eq_true, if_false]
          rw [and32 (by omega) (by omega)]
          by_cases c3 : t.f0 / 32 % 2 = 0
          · rw [if_pos c3]
            refine ev_ite (fun _ => ev_succ ?_) (fun c => absurd (show t.f0 / 32 % 2 * 32 = 0 by omega) c)
            by_cases c4 : t.f2 = []
            · rw [if_pos c4]
              have : decide ((t.f2.length : Int) > 0) = false := decide_eq_false (by rw [c4]; simp)
              simp only [ber_length.j1, this, Bool.false_eq_true, if_false]
              rw [and32 (by omega) (by omega)]
              refine ev_ite (fun _ => ev_succ ?_) (fun c => absurd (show t.f0 / 32 % 2 * 32 = 0 by omega) c)
              simp only [ber_length.j2]
              refine ev_succ ?_
              simp only [ber_length.l0]
              refine ev_ite (fun c => absurd c (by rw [c4]; simp)) (fun _ => ?_)
              exact ev_ite (fun c => ev_some (by rw [if_pos c])) (fun c => ev_some (by rw [if_neg (by omega)]))
            · rw [if_neg c4]
              have : decide ((t.f2.length : Int) > 0) = true := decide_eq_true (by
                cases h : t.f2 with
                | nil => exact absurd h c4
                | cons => simp only [List.length_cons]; omega)
              simp only [ber_length.j1, this, if_true]
              exact ev_some rfl
          · rw [if_neg c3]
            refine ev_ite (fun c => absurd (show t.f0 / 32 % 2 = 0 by omega) c3) (fun _ => ev_succ ?_)
            simp only [ber_length.j1, Bool.false_eq_true, if_false]
            rw [and32 (by omega) (by omega)]
            refine ev_ite (fun c => absurd (show t.f0 / 32 % 2 = 0 by omega) c3) (fun _ => ?_)
            by_cases c4 : 0 < t.f1.size
            · rw [if_pos c4]
              exact ev_ite (fun _ => ev_some rfl) (fun c => absurd (show (t.f1.size : Int) > 0 by omega) c)
            · rw [if_neg c4]
              refine ev_ite (fun c => absurd c (by omega)) (fun _ => ?_)
              refine ev_ite (fun c => absurd c (by omega)) (fun _ => ev_succ ?_)
              simp only [ber_length.j2]
              have := length_loop d (by omega) t.f2 (by omega) (fun x hx => ih (by omega) x (by have := wt_mem _ _ hx; omega)) t.f2.length 0 (t.f1.size : Int) (by omega) (by omega) (by omega) (by omega)
              rw [List.drop_zero, show (t.f1.size : Int) = 0 by omega] at this
              rw [show (t.f1.size : Int) = 0 by omega, show (((d + 1 : Nat) : Int)) = (d : Int) + 1 by omega]
              exact this
end Go.Proofs.Ytjlcmahknldjpaa.Pure
