/- Whether two tlvs are one, as the reference tells it: equality. Conditions: those of each theorem. -/
import Derived.Test.YtjlcmahknldjpaaBerC
import Derived.Test.YtjlcmahknldjpaaXBerx6
namespace Go.Proofs.Ytjlcmahknldjpaa.Pure
open Go.RowKit Go.Proofs.Ytjlcmahknldjpaa.XBer Go.Proofs.YtjlcmahknldjpaaV.PrintWords
set_option linter.unusedVariables false
set_option linter.unusedSimpArgs false

/-! how many tlvs there are -/
mutual
def wt : S25 → Nat
  | ⟨_, _, l⟩ => 1 + wts l
def wts : List S25 → Nat
  | [] => 0
  | x :: r => wt x + wts r
end
theorem wt_eq (x : S25) : wt x = 1 + wts x.f2 := by cases x; rfl
theorem wt_pos (x : S25) : 1 ≤ wt x := by rw [wt_eq]; omega
theorem wts_len : ∀ l : List S25, l.length ≤ wts l
  | [] => by simp [wts]
  | x :: r => by
    have := wts_len r
    have := wt_pos x
    simp only [wts, List.length_cons]
    omega
theorem wt_mem : ∀ (l : List S25) (x : S25), x ∈ l → wt x ≤ wts l
  | y :: r, x, h => by
    simp only [wts]
    rcases List.mem_cons.1 h with rfl | h
    · omega
    · have := wt_mem r x h
      omega
theorem wts_append : ∀ a b : List S25, wts (a ++ b) = wts a + wts b
  | [], b => by simp [wts]
  | x :: r, b => by simp only [List.cons_append, wts, wts_append r b]; omega
theorem ext {a b : S25} : a = b ↔ a.f0 = b.f0 ∧ a.f1 = b.f1 ∧ a.f2 = b.f2 := by
  cases a; cases b
  simp

theorem rd_at (l : List S25) (j : Nat) (h : j < l.length) : rd_T25 l (j : Int) = l[j] := by
  unfold rd_T25
  simp [List.getD_eq_getElem?_getD, h]

theorem same_all : ∀ (n : Nat) (a b : S25), wt a ≤ n → wt a ≤ 1073741824 → wt b ≤ 1073741824 → ∃ r, Ev (fun k => brookref1_SameTlv.f k a.f0 a.f1 a.f2 b.f0 b.f1 b.f2) r ∧ (r = true ↔ a = b) := by
  intro n
  induction n with
  | zero => intro a b h; have := wt_pos a; omega
  | succ n ih =>
    intro a b hn ha hb
    have hwa := wt_eq a
    have hwb := wt_eq b
    have hla := wts_len a.f2
    have hlb := wts_len b.f2
    by_cases c0 : a.f0 = b.f0
    · by_cases c1 : a.f1 = b.f1
      · by_cases c2 : a.f2.length = b.f2.length
        · have loop : ∀ (m j : Nat), a.f2.length - j ≤ m → j ≤ a.f2.length → ∃ r, Ev (fun k => brookref1_SameTlv.l0 k (j : Int) a.f0 a.f1 a.f2 b.f0 b.f1 b.f2) r ∧ (r = true ↔ a.f2.drop j = b.f2.drop j) := by
            intro m
            induction m with
            | zero =>
              intro j hj hj2
              refine ⟨true, ?_, ?_⟩
              · refine ev_succ ?_
                simp only [brookref1_SameTlv.l0]
                exact ev_ite (fun c => absurd c (by omega)) (fun _ => ev_some rfl)
              · rw [List.drop_eq_nil_of_le (by omega), List.drop_eq_nil_of_le (by omega)]; simp
            | succ m ihm =>
              intro j hj hj2
              by_cases hlt : j < a.f2.length
              · have hx : a.f2[j] ∈ a.f2 := List.getElem_mem _
                have hlt2 : j < b.f2.length := by omega
                have hy : b.f2[j] ∈ b.f2 := List.getElem_mem _
                obtain ⟨r1, h1, h2⟩ := ih a.f2[j] b.f2[j] (by have := wt_mem _ _ hx; omega) (by have := wt_mem _ _ hx; omega) (by have := wt_mem _ _ hy; omega)
                obtain ⟨r2, h3, h4⟩ := ihm (j + 1) (by omega) (by omega)
                refine ⟨if r1 = true then r2 else false, ?_, ?_⟩
                · refine ev_succ ?_
                  simp only [brookref1_SameTlv.l0]
                  refine ev_ite (fun _ => ?_) (fun c => absurd (show (j : Int) < (a.f2.length : Int) by omega) c)
                  refine ev_ite (fun _ => ?_) (fun c => absurd (show (0 : Int) ≤ (j : Int) by omega) c)
                  refine ev_ite (fun _ => ?_) (fun c => absurd (show (j : Int) < (b.f2.length : Int) by omega) c)
                  rw [rd_at a.f2 j hlt, rd_at b.f2 j hlt2]
                  refine Ev.bind h1 ?_
                  by_cases hr : r1 = true
                  · rw [if_pos hr]
                    refine ev_ite (fun _ => ?_) (fun c => absurd hr c)
                    rw [w64 (by omega) (by omega)]
                    exact h3
                  · rw [if_neg hr]
                    exact ev_ite (fun c => absurd c hr) (fun _ => ev_some rfl)
                · rw [List.drop_eq_getElem_cons hlt, List.drop_eq_getElem_cons hlt2, List.cons.injEq, ← h2, ← h4]
                  by_cases hr : r1 = true
                  · simp [hr]
                  · simp [hr]
              · refine ⟨true, ?_, ?_⟩
                · refine ev_succ ?_
                  simp only [brookref1_SameTlv.l0]
                  exact ev_ite (fun c => absurd c (by omega)) (fun _ => ev_some rfl)
                · rw [List.drop_eq_nil_of_le (by omega), List.drop_eq_nil_of_le (by omega)]; simp
          obtain ⟨r, h1, h2⟩ := loop a.f2.length 0 (by omega) (by omega)
          refine ⟨r, ?_, ?_⟩
          · refine ev_succ ?_
            simp only [brookref1_SameTlv.f]
            refine ev_ite (fun _ => ?_) (fun c => absurd c0 c)
            refine ev_ite (fun _ => ?_) (fun c => absurd (toList_eq.2 c1) c)
            have : ((a.f2.length : Int) != (b.f2.length : Int)) = false := by simp [c2]
            rw [this]
            refine ev_succ ?_
            simp only [brookref1_SameTlv.j0, Bool.false_eq_true, if_false]
            exact h1
          · rw [h2, ext, List.drop_zero, List.drop_zero]
            simp [c0, c1]
        · refine ⟨false, ?_, ?_⟩
          · refine ev_succ ?_
            simp only [brookref1_SameTlv.f]
            refine ev_ite (fun _ => ?_) (fun c => absurd c0 c)
            refine ev_ite (fun _ => ?_) (fun c => absurd (toList_eq.2 c1) c)
            have : ((a.f2.length : Int) != (b.f2.length : Int)) = true := by rw [bne_iff_ne]; omega
            rw [this]
            refine ev_succ ?_
            simp only [brookref1_SameTlv.j0, if_true]
            exact ev_some rfl
          · rw [ext]
            constructor
            · intro h; cases h
            · rintro ⟨_, _, h⟩; exact absurd (by rw [h]) c2
      · refine ⟨false, ?_, ?_⟩
        · refine ev_succ ?_
          simp only [brookref1_SameTlv.f]
          refine ev_ite (fun _ => ?_) (fun c => absurd c0 c)
          refine ev_ite (fun c => absurd (toList_eq.1 c) c1) (fun _ => ?_)
          refine ev_succ ?_
          simp only [brookref1_SameTlv.j0, if_true]
          exact ev_some rfl
        · rw [ext]
          constructor
          · intro h; cases h
          · rintro ⟨_, h, _⟩; exact absurd h c1
    · refine ⟨false, ?_, ?_⟩
      · refine ev_succ ?_
        simp only [brookref1_SameTlv.f]
        refine ev_ite (fun c => absurd c c0) (fun _ => ?_)
        refine ev_succ ?_
        simp only [brookref1_SameTlv.j0, if_true]
        exact ev_some rfl
      · rw [ext]
        constructor
        · intro h; cases h
        · rintro ⟨h, _, _⟩; exact absurd h c0

theorem same_self (a : S25) (ha : wt a ≤ 1073741824) : Ev (fun k => brookref1_SameTlv.f k a.f0 a.f1 a.f2 a.f0 a.f1 a.f2) true := by
  obtain ⟨r, h1, h2⟩ := same_all _ a a (Nat.le_refl _) ha ha
  rw [h2.2 rfl] at h1
  exact h1

/-! what is read is no more than what there is -/
theorem items_wt {p : List Int → R} (hp : Good p) (hw : ∀ l, (∀ x ∈ l, 0 ≤ x ∧ x < 256) → (p l).1 = 0 → (wt (p l).2.1 : Int) ≤ (p l).2.2) : ∀ (k : Nat) (l : List Int) (ts : List S25), (∀ x ∈ l, 0 ≤ x ∧ x < 256) → items p k l = some ts → wts ts ≤ l.length := by
  intro k
  induction k with
  | zero => intro l ts _ h; simp [items] at h
  | succ k ih =>
    intro l ts hb h
    by_cases hn : l = []
    · subst hn
      rw [items_nil] at h
      obtain rfl := Option.some.inj h
      simp [wts]
    · rw [items_cons p k hn] at h
      by_cases c : (p l).1 = 0
      · rw [if_pos c] at h
        obtain ⟨ts', h1, rfl⟩ := Option.map_eq_some_iff.1 h
        have h2 := ih _ ts' (bd_drop hb _) h1
        have h3 := hp l hb c
        have h4 := hw l hb c
        rw [List.length_drop] at h2
        simp only [wts]
        omega
      · rw [if_neg c] at h
        cases h
theorem node_wt {l : List Int} {sub : Option (List Int → R)} (hb : ∀ x ∈ l, 0 ≤ x ∧ x < 256) (h : (node l sub).1 = 0)
    (hs : ∀ p, sub = some p → Good p ∧ ∀ l, (∀ x ∈ l, 0 ≤ x ∧ x < 256) → (p l).1 = 0 → (wt (p l).2.1 : Int) ≤ (p l).2.2) : (wt (node l sub).2.1 : Int) ≤ (node l sub).2.2 := by
  obtain ⟨c, _⟩ := node_ok hb h
  obtain ⟨t, q, _, _, _, _, h3, h4, h5, _⟩ := hd_ok hb c
  unfold node at h ⊢
  rw [if_pos c] at h ⊢
  by_cases c2 : (hd l).1 / 32 % 2 = 0
  · rw [if_pos c2]
    simp only [wt, wts]
    omega
  · rw [if_neg c2] at h ⊢
    cases sub with
    | none => simp at h
    | some p =>
      simp only at h ⊢
      cases hi : items p ((body l).length + 1) (body l) with
      | none => rw [hi] at h; simp at h
      | some ts =>
        obtain ⟨g1, g2⟩ := hs p rfl
        have := items_wt g1 g2 _ (body l) ts (bd_take (bd_drop hb _) _) hi
        have hB : (body l).length = (hd l).2.2.1.toNat := by unfold body; rw [List.length_take, List.length_drop]; omega
        simp only [wt]
        omega
theorem parse_wt : ∀ (d : Nat) (l : List Int), (∀ x ∈ l, 0 ≤ x ∧ x < 256) → (parse d l).1 = 0 → (wt (parse d l).2.1 : Int) ≤ (parse d l).2.2 := by
  intro d
  induction d with
  | zero => intro l hb h; exact node_wt hb h (fun p hp => by cases hp)
  | succ d ih => intro l hb h; exact node_wt hb h (fun p hp => by cases hp; exact ⟨parse_good d, ih⟩)
theorem parse_no (d : Nat) (l : List Int) (h : (parse d l).1 ≠ 0) : (parse d l).2 = (no, 0) := by
  obtain ⟨sub, e⟩ := parse_node d l
  rw [e] at h ⊢
  unfold node at h ⊢
  by_cases c : (hd l).2.2.2 = 0
  · rw [if_pos c] at h ⊢
    by_cases c2 : (hd l).1 / 32 % 2 = 0
    · rw [if_pos c2] at h; simp at h
    · rw [if_neg c2] at h ⊢
      cases sub with
      | none => rfl
      | some p =>
        simp only at h ⊢
        cases hi : items p ((body l).length + 1) (body l) with
        | none => rfl
        | some ts => rw [hi] at h; simp at h
  · rw [if_neg c]
theorem awake_ev : Ev (fun k => brooklaw1_awake.f k) true := Ev.of brooklaw1_awake.mono (k := 60) (by decide +kernel)

theorem Get_out {s : ByteArray} {i : Int} (hs : s.size ≤ 1073741824) (h : i < 0 ∨ (s.size : Int) < i) : Ev (fun k => ber_Get.f k s i) (0, ⟨#[]⟩, [], 0, 1) := by
  have h2 : Ev (fun k => ber_get.f k s i 12) (0, ⟨#[]⟩, [], 0, 1) := by
    refine ev_succ ?_
    simp only [ber_get.f]
    refine Ev.bind ⟨10, fun k hk => head_eq s i hs k hk⟩ ?_
    unfold headS
    rw [if_pos (by rw [by_len]; exact h)]
    exact ev_ite (fun c => by cases c) (fun _ => ev_some rfl)
  unfold ber_Get.f
  exact Ev.bind h2 (ev_some rfl)
theorem Get_in {s : ByteArray} {i : Int} (hs : s.size ≤ 1073741824) (h0 : 0 ≤ i) (h1 : i ≤ s.size) : Ev (fun k => ber_Get.f k s i) (res i (parse 12 ((bytesOf s).drop i.toNat))) := by
  unfold ber_Get.f
  exact Ev.bind (get_eq 12 (by omega) s i hs h0 h1) (ev_some rfl)
end Go.Proofs.Ytjlcmahknldjpaa.Pure
