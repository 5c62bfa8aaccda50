/- What bytes say, by lists of numbers: both readers of tlvs answer that. Conditions: those of each theorem. -/
import Derived.Test.YtjlcmahknldjpaaBerA
import Derived.Test.YtjlcmahknldjpaaXBerx4
namespace Go.Proofs.Ytjlcmahknldjpaa.Pure
open Go.RowKit Go.Proofs.Ytjlcmahknldjpaa.XBer Go.Proofs.YtjlcmahknldjpaaV.PrintWords
set_option linter.unusedVariables false
set_option linter.unusedSimpArgs false

/-! what a list of bytes says -/
abbrev R := Int × S25 × Int
def no : S25 := ⟨0, ⟨#[]⟩, []⟩
/-- tlvs one behind the other, up to the end -/
def items (p : List Int → R) : Nat → List Int → Option (List S25)
  | 0, _ => none
  | k + 1, l => if l = [] then some [] else if (p l).1 = 0 then (items p k (l.drop (p l).2.2.toNat)).map (fun ts => (p l).2.1 :: ts) else none
/-- the content of a list that begins with a head -/
def body (l : List Int) : List Int := (l.drop (hd l).2.1.toNat).take (hd l).2.2.1.toNat
def node (l : List Int) (sub : Option (List Int → R)) : R :=
  if (hd l).2.2.2 = 0 then
    if (hd l).1 / 32 % 2 = 0 then (0, ⟨(hd l).1, strOfNums (body l), []⟩, (hd l).2.1 + (hd l).2.2.1)
    else match sub with
      | none => (5, no, 0)
      | some p => match items p ((body l).length + 1) (body l) with
        | none => (5, no, 0)
        | some ts => (0, ⟨(hd l).1, ⟨#[]⟩, ts⟩, (hd l).2.1 + (hd l).2.2.1)
  else ((hd l).2.2.2, no, 0)
/-- the tlv that a list begins with, so deep at most -/
def parse : Nat → List Int → R
  | 0, l => node l none
  | d + 1, l => node l (some (parse d))

theorem hd_ok {l : List Int} (hb : ∀ x ∈ l, 0 ≤ x ∧ x < 256) (h : (hd l).2.2.2 = 0) : ∃ t q, l = t :: q ∧ (hd l).1 = t ∧ 0 ≤ t ∧ t < 256 ∧ 2 ≤ (hd l).2.1 ∧ 0 ≤ (hd l).2.2.1 ∧ (hd l).2.1 + (hd l).2.2.1 ≤ l.length ∧ (hd l).2.2.1 ≤ 1048576 := by
  match l, hb, h with
  | [], _, h => simp [hd] at h
  | t :: r, hb, h =>
    have ht := hb t (by simp)
    by_cases h31 : t % 32 = 31
    · simp [hd, h31] at h
    · match r, hb, h with
      | [], _, h => simp [hd, h31] at h
      | b :: q, hb, h =>
        have hbb := hb b (by simp)
        have e : ((t :: b :: q).length : Int) = q.length + 2 := by simp only [List.length_cons]; omega
        refine ⟨t, b :: q, rfl, ?_⟩
        rw [e]
        simp only [hd] at h ⊢
        rw [if_neg h31] at h ⊢
        by_cases c1 : b < 128
        · rw [if_pos c1] at h ⊢
          by_cases c2 : (q.length : Int) < b
          · rw [if_pos c2] at h; simp at h
          · rw [if_neg c2]; exact ⟨rfl, ht.1, ht.2, by simp, hbb.1, by simp only; omega, by simp only; omega⟩
        · rw [if_neg c1] at h ⊢
          by_cases c2 : b = 128 ∨ 131 < b
          · rw [if_pos c2] at h; simp at h
          · rw [if_neg c2] at h ⊢
            by_cases c3 : (q.length : Int) < b - 128
            · rw [if_pos c3] at h; simp at h
            · rw [if_neg c3] at h ⊢
              by_cases c4 : q.headD 0 = 0 ∨ num (q.take (b - 128).toNat) < 128 ∨ 1048576 < num (q.take (b - 128).toNat)
              · rw [if_pos c4] at h; simp at h
              · rw [if_neg c4] at h ⊢
                by_cases c5 : (q.length : Int) - (b - 128) < num (q.take (b - 128).toNat)
                · rw [if_pos c5] at h; simp at h
                · rw [if_neg c5]; exact ⟨rfl, ht.1, ht.2, by simp only; omega, by simp only; omega, by simp only; omega, by simp only; omega⟩

theorem node_ok {l : List Int} {sub : Option (List Int → R)} (hb : ∀ x ∈ l, 0 ≤ x ∧ x < 256) (h : (node l sub).1 = 0) : (hd l).2.2.2 = 0 ∧ (node l sub).2.2 = (hd l).2.1 + (hd l).2.2.1 := by
  unfold node at h ⊢
  by_cases c : (hd l).2.2.2 = 0
  · rw [if_pos c] at h ⊢
    refine ⟨c, ?_⟩
    by_cases c2 : (hd l).1 / 32 % 2 = 0
    · rw [if_pos c2]
    · rw [if_neg c2] at h ⊢
      cases sub with
      | none => simp at h
      | some p =>
        simp only at h ⊢
        cases hi : items p ((body l).length + 1) (body l) with
        | none => rw [hi] at h; simp at h
        | some ts => rfl
  · rw [if_neg c] at h
    exact absurd h c
def Good (p : List Int → R) : Prop := ∀ l, (∀ x ∈ l, 0 ≤ x ∧ x < 256) → (p l).1 = 0 → 2 ≤ (p l).2.2 ∧ (p l).2.2 ≤ l.length
theorem node_good (sub : Option (List Int → R)) : Good (fun l => node l sub) := by
  intro l hb h
  obtain ⟨h1, h2⟩ := node_ok hb h
  obtain ⟨t, q, _, _, _, _, h3, h4, h5, _⟩ := hd_ok hb h1
  show 2 ≤ (node l sub).2.2 ∧ (node l sub).2.2 ≤ _
  rw [h2]
  omega
theorem parse_node (d : Nat) (l : List Int) : ∃ sub, parse d l = node l sub := by
  cases d with
  | zero => exact ⟨none, rfl⟩
  | succ d => exact ⟨some (parse d), rfl⟩
theorem parse_good (d : Nat) : Good (parse d) := by
  intro l hb h
  obtain ⟨sub, e⟩ := parse_node d l
  rw [e] at h ⊢
  exact node_good sub l hb h

theorem items_nil (p : List Int → R) (k : Nat) : items p (k + 1) [] = some [] := by simp [items]
theorem items_cons (p : List Int → R) (k : Nat) {l : List Int} (hl : l ≠ []) : items p (k + 1) l = if (p l).1 = 0 then (items p k (l.drop (p l).2.2.toNat)).map (fun ts => (p l).2.1 :: ts) else none := by
  simp only [items]
  rw [if_neg hl]
theorem bd_drop {l : List Int} (hb : ∀ x ∈ l, 0 ≤ x ∧ x < 256) (a : Nat) : ∀ x ∈ l.drop a, 0 ≤ x ∧ x < 256 := fun x hx => hb x (List.mem_of_mem_drop hx)
theorem bd_take {l : List Int} (hb : ∀ x ∈ l, 0 ≤ x ∧ x < 256) (a : Nat) : ∀ x ∈ l.take a, 0 ≤ x ∧ x < 256 := fun x hx => hb x (List.mem_of_mem_take hx)
/-- the fuel is enough -/
theorem items_fuel {p : List Int → R} (hp : Good p) : ∀ (n : Nat) (l : List Int), l.length ≤ n → (∀ x ∈ l, 0 ≤ x ∧ x < 256) → ∀ f g, l.length < f → l.length < g → items p f l = items p g l := by
  intro n
  induction n with
  | zero =>
    intro l hl hb f g hf hg
    obtain rfl : l = [] := List.eq_nil_of_length_eq_zero (by omega)
    obtain ⟨f, rfl⟩ : ∃ m, f = m + 1 := ⟨f - 1, by omega⟩
    obtain ⟨g, rfl⟩ : ∃ m, g = m + 1 := ⟨g - 1, by omega⟩
    rw [items_nil, items_nil]
  | succ n ih =>
    intro l hl hb f g hf hg
    obtain ⟨f, rfl⟩ : ∃ m, f = m + 1 := ⟨f - 1, by omega⟩
    obtain ⟨g, rfl⟩ : ∃ m, g = m + 1 := ⟨g - 1, by omega⟩
    by_cases hn : l = []
    · subst hn; rw [items_nil, items_nil]
    · rw [items_cons p f hn, items_cons p g hn]
      by_cases c : (p l).1 = 0
      · rw [if_pos c, if_pos c]
        have hg2 := hp l hb c
        have hl0 : 0 < l.length := by cases l with | nil => exact absurd rfl hn | cons => simp
        rw [ih (l.drop (p l).2.2.toNat) (by rw [List.length_drop]; omega) (bd_drop hb _) f g (by rw [List.length_drop]; omega) (by rw [List.length_drop]; omega)]
      · rw [if_neg c, if_neg c]

theorem eta (x : S25) : (⟨x.f0, x.f1, x.f2⟩ : S25) = x := by cases x; rfl
/-! the program's reader -/
def res (i : Int) (r : R) : Int × ByteArray × List S25 × Int × Int := if r.1 = 0 then (r.2.1.f0, r.2.1.f1, r.2.1.f2, i + r.2.2, 0) else (0, ⟨#[]⟩, [], 0, r.1)
def resL (t : Int) (ed : Int) (acc : List S25) (r : Option (List S25)) : Int × ByteArray × List S25 × Int × Int :=
  match r with
  | none => (0, ⟨#[]⟩, [], 0, 5)
  | some ts => (t, ⟨#[]⟩, acc ++ ts, ed, 0)

theorem get_loop (d : Nat) (hd1 : d ≤ 100) (ih : ∀ (s : ByteArray) (i : Int), s.size ≤ 1073741824 → 0 ≤ i → i ≤ s.size → Ev (fun k => ber_get.f k s i d) (res i (parse d ((bytesOf s).drop i.toNat))))
    (s : ByteArray) (hs : s.size ≤ 1073741824) (t ed : Int) (h0 : 0 ≤ ed) (h1 : ed ≤ s.size) : ∀ (n : Nat) (i : Int) (acc : List S25), 0 ≤ i → i ≤ ed → (ed - i).toNat ≤ n → (acc.length : Int) ≤ i →
      Ev (fun k => ber_get.l0 k s ((d : Int) + 1) ed i t ⟨#[]⟩ acc) (resL t ed acc (items (parse d) (n + 1) (((bytesOf s).take ed.toNat).drop i.toNat))) := by
  intro n
  induction n with
  | zero =>
    intro i acc hi hi2 hn hacc
    have hie : i = ed := by omega
    refine ev_succ ?_
    simp only [ber_get.l0]
    refine ev_ite (fun c => absurd c (by omega)) (fun _ => ev_some ?_)
    have : ((bytesOf s).take ed.toNat).drop i.toNat = [] := List.drop_eq_nil_of_le (by rw [List.length_take]; omega)
    rw [this, items_nil]
    simp [resL]
  | succ n ihn =>
    intro i acc hi hi2 hn hacc
    refine ev_succ ?_
    simp only [ber_get.l0]
    by_cases hlt : i < ed
    · refine ev_ite (fun _ => ?_) (fun c => absurd hlt c)
      refine ev_ite (fun _ => ?_) (fun c => absurd h0 c)
      refine ev_ite (fun _ => ?_) (fun c => absurd h1 c)
      have hsz : (s.extract 0 ed.toNat).size ≤ 1073741824 := by rw [ByteArray.size_extract]; omega
      have hsz2 : ((s.extract 0 ed.toNat).size : Int) = ed := by rw [ByteArray.size_extract]; omega
      have hby : bytesOf (s.extract 0 ed.toNat) = (bytesOf s).take ed.toNat := by rw [by_extract, List.drop_zero]
      have hw : wrap64 ((d : Int) + 1 - 1) = d := by
        rw [w64 (by omega) (by omega)]; omega
      have hg := ih (s.extract 0 ed.toNat) i hsz hi (by omega)
      rw [hby] at hg
      have hbd : ∀ x ∈ ((bytesOf s).take ed.toNat).drop i.toNat, 0 ≤ x ∧ x < 256 := bd_drop (bd_take (by_bd s) _) _
      have hlen : (((bytesOf s).take ed.toNat).drop i.toNat).length = (ed - i).toNat := by rw [List.length_drop, List.length_take, by_len]; omega
      have hne : ((bytesOf s).take ed.toNat).drop i.toNat ≠ [] := by intro h; rw [h] at hlen; simp at hlen; omega
      have hdd : ∀ m : Int, 0 ≤ m → ((bytesOf s).take ed.toNat).drop (i + m).toNat = (((bytesOf s).take ed.toNat).drop i.toNat).drop m.toNat := by
        intro m hm
        rw [List.drop_drop]
        congr 1
        omega
      rw [items_cons _ _ hne]
      rw [hw]
      refine Ev.bind hg ?_
      have hgood := parse_good d _ hbd
      generalize ((bytesOf s).take ed.toNat).drop i.toNat = L at *
      generalize hp : parse d L = r at *
      by_cases c : r.1 = 0
      · have hm := hgood c
        rw [if_pos c]
        unfold res
        rw [if_pos c]
        refine ev_ite (fun _ => ?_) (fun c2 => absurd rfl c2)
        refine ev_ite (fun _ => ?_) (fun c2 => absurd (show acc.length < 2932031007402 by omega) c2)
        have hnext := ihn (i + r.2.2) (acc ++ [r.2.1]) (by omega) (by omega) (by omega) (by simp; omega)
        rw [hdd _ (by omega)] at hnext
        simp only [eta]
        cases hit : items (parse d) (n + 1) (L.drop r.2.2.toNat) with
        | none => rw [hit] at hnext; simpa [resL] using hnext
        | some ts => rw [hit] at hnext; simpa [resL] using hnext
      · rw [if_neg c]
        unfold res
        rw [if_neg c]
        refine ev_ite (fun c2 => absurd c2 c) (fun _ => ev_some rfl)
    · refine ev_ite (fun c => absurd c hlt) (fun _ => ev_some ?_)
      have hie : i = ed := by omega
      have : ((bytesOf s).take ed.toNat).drop i.toNat = [] := List.drop_eq_nil_of_le (by rw [List.length_take]; omega)
      rw [this, items_nil]
      simp [resL]

theorem body_at {s : ByteArray} {i : Int} (hi : 0 ≤ i) {f n : Int} (hf : 0 ≤ f) (hn : 0 ≤ n) : ((bytesOf s).take (i + f + n).toNat).drop (i + f).toNat = ((((bytesOf s).drop i.toNat).drop f.toNat).take n.toNat) := by
  rw [List.drop_drop, List.drop_take]
  congr 1
  · omega
  · congr 1; omega
theorem leaf_at {s : ByteArray} {i : Int} (hi : 0 ≤ i) {f n : Int} (hf : 0 ≤ f) (hn : 0 ≤ n) : s.extract (i + f).toNat (i + f + n).toNat = strOfNums ((((bytesOf s).drop i.toNat).drop f.toNat).take n.toNat) := by
  rw [← body_at hi hf hn, ← by_extract, strOf_by]

theorem get_eq : ∀ (d : Nat), d ≤ 100 → ∀ (s : ByteArray) (i : Int), s.size ≤ 1073741824 → 0 ≤ i → i ≤ s.size → Ev (fun k => ber_get.f k s i d) (res i (parse d ((bytesOf s).drop i.toNat))) := by
  intro d
  induction d with
  | zero =>
    intro _ s i hs hi hi2
    refine ev_succ ?_
    simp only [ber_get.f]
    refine Ev.bind ⟨10, fun k hk => head_eq s i hs k hk⟩ ?_
    have hl := by_len s
    have hbd : ∀ x ∈ (bytesOf s).drop i.toNat, 0 ≤ x ∧ x < 256 := bd_drop (by_bd s) _
    have hok := @hd_ok _ hbd
    unfold headS
    rw [if_neg (show ¬ (i < 0 ∨ ((bytesOf s).length : Int) < i) by omega)]
    have hlf := fun (f n : Int) (hf : 0 ≤ f) (hn : 0 ≤ n) => leaf_at (s := s) hi hf hn
    have hLl : (((bytesOf s).drop i.toNat).length : Int) + i = s.size := by rw [List.length_drop]; omega
    show Ev _ (res i (node _ none))
    unfold node body
    generalize (bytesOf s).drop i.toNat = L at *
    by_cases c : (hd L).2.2.2 = 0
    · obtain ⟨t, q, _, e1, t0, t1, h2, h3, h4, _⟩ := hok c
      rw [if_pos c, if_pos c]
      simp only [e1]
      rw [and32 t0 t1]
      refine ev_ite (fun _ => ?_) (fun c2 => absurd trivial c2)
      by_cases c3 : t / 32 % 2 = 0
      · rw [if_pos c3]
        refine ev_ite (fun _ => ?_) (fun c4 => absurd (show t / 32 % 2 * 32 = 0 by omega) c4)
        refine ev_ite (fun _ => ?_) (fun c4 => absurd (show 0 ≤ i + (hd L).2.1 by omega) c4)
        refine ev_ite (fun _ => ?_) (fun c4 => absurd (show i + (hd L).2.1 ≤ i + (hd L).2.1 + (hd L).2.2.1 by omega) c4)
        refine ev_ite (fun _ => ev_some ?_) (fun c4 => absurd (show i + (hd L).2.1 + (hd L).2.2.1 ≤ (s.size : Int) by omega) c4)
        rw [hlf _ _ (by omega) h3]
        simp [res, Int.add_assoc]
      · rw [if_neg c3]
        refine ev_ite (fun c4 => absurd (show t / 32 % 2 = 0 by omega) c3) (fun _ => ?_)
        refine ev_ite (fun _ => ev_some ?_) (fun c4 => absurd (show ((0 : Nat) : Int) < 1 by omega) c4)
        simp [res]
    · rw [if_neg c, if_neg c]
      refine ev_ite (fun c2 => absurd c2 c) (fun _ => ev_some ?_)
      simp [res, c]
  | succ d ih =>
    intro hd1 s i hs hi hi2
    have ih' := ih (by omega)
    refine ev_succ ?_
    simp only [ber_get.f]
    refine Ev.bind ⟨10, fun k hk => head_eq s i hs k hk⟩ ?_
    have hl := by_len s
    have hbd : ∀ x ∈ (bytesOf s).drop i.toNat, 0 ≤ x ∧ x < 256 := bd_drop (by_bd s) _
    have hok := @hd_ok _ hbd
    unfold headS
    rw [if_neg (show ¬ (i < 0 ∨ ((bytesOf s).length : Int) < i) by omega)]
    have hlf := fun (f n : Int) (hf : 0 ≤ f) (hn : 0 ≤ n) => leaf_at (s := s) hi hf hn
    have hba := fun (f n : Int) (hf : 0 ≤ f) (hn : 0 ≤ n) => body_at (s := s) hi hf hn
    have hLl : (((bytesOf s).drop i.toNat).length : Int) + i = s.size := by rw [List.length_drop]; omega
    have hloop := fun t ed h0 h1 n j acc => get_loop d (by omega) ih' s hs t ed h0 h1 n j acc
    show Ev _ (res i (node _ (some (parse d))))
    unfold node body
    generalize (bytesOf s).drop i.toNat = L at *
    by_cases c : (hd L).2.2.2 = 0
    · obtain ⟨t, q, _, e1, t0, t1, h2, h3, h4, _⟩ := hok c
      rw [if_pos c, if_pos c]
      simp only [e1]
      rw [and32 t0 t1]
      refine ev_ite (fun _ => ?_) (fun c2 => absurd trivial c2)
      by_cases c3 : t / 32 % 2 = 0
      · rw [if_pos c3]
        refine ev_ite (fun _ => ?_) (fun c4 => absurd (show t / 32 % 2 * 32 = 0 by omega) c4)
        refine ev_ite (fun _ => ?_) (fun c4 => absurd (show 0 ≤ i + (hd L).2.1 by omega) c4)
        refine ev_ite (fun _ => ?_) (fun c4 => absurd (show i + (hd L).2.1 ≤ i + (hd L).2.1 + (hd L).2.2.1 by omega) c4)
        refine ev_ite (fun _ => ev_some ?_) (fun c4 => absurd (show i + (hd L).2.1 + (hd L).2.2.1 ≤ (s.size : Int) by omega) c4)
        rw [hlf _ _ (by omega) h3]
        simp [res, Int.add_assoc]
      · rw [if_neg c3]
        refine ev_ite (fun c4 => absurd (show t / 32 % 2 = 0 by omega) c3) (fun _ => ?_)
        refine ev_ite (fun c4 => absurd (show ¬ (((d + 1 : Nat) : Int) < 1) by omega) (fun h => h c4)) (fun _ => ?_)
        have hB : ((L.drop (hd L).2.1.toNat).take (hd L).2.2.1.toNat).length = (hd L).2.2.1.toNat := by rw [List.length_take, List.length_drop]; omega
        have := hloop t (i + (hd L).2.1 + (hd L).2.2.1) (by omega) (by omega) (hd L).2.2.1.toNat (i + (hd L).2.1) [] (by omega) (by omega) (by omega) (by simp; omega)
        rw [hba _ _ (by omega) h3] at this
        rw [hB]
        rw [show (((d + 1 : Nat) : Int)) = (d : Int) + 1 by omega]
        refine ev_congr (fun k => rfl) ?_
        cases hit : items (parse d) ((hd L).2.2.1.toNat + 1) ((L.drop (hd L).2.1.toNat).take (hd L).2.2.1.toNat) with
        | none => rw [hit] at this; simpa [resL, res] using this
        | some ts => rw [hit] at this; simpa [resL, res, Int.add_assoc] using this
    · rw [if_neg c, if_neg c]
      refine ev_ite (fun c2 => absurd c2 c) (fun _ => ev_some ?_)
      simp [res, c]
end Go.Proofs.Ytjlcmahknldjpaa.Pure
