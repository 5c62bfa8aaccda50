/- The reference's reader of tlvs answers what bytes say, by lists of numbers. Conditions: those of each theorem. -/
import Derived.Test.YtjlcmahknldjpaaBerC
import Derived.Test.YtjlcmahknldjpaaBerB
import Derived.Test.YtjlcmahknldjpaaXBerx5
namespace Go.Proofs.Ytjlcmahknldjpaa.Pure
open Go.RowKit Go.Proofs.Ytjlcmahknldjpaa.XBer Go.Proofs.YtjlcmahknldjpaaV.PrintWords
set_option linter.unusedVariables false
set_option linter.unusedSimpArgs false

theorem hdr_ok {l : List Int} (hb : ∀ x ∈ l, 0 ≤ x ∧ x < 256) (h : (hdr l).2.2 = 0) : 2 ≤ (hdr l).1 ∧ (hdr l).1 ≤ 5 ∧ 0 ≤ (hdr l).2.1 ∧ (hdr l).2.1 ≤ 1048576 ∧ (hdr l).1 ≤ l.length ∧ l ≠ [] := by
  match l, hb, h with
  | [], _, h => simp [hdr] at h
  | t :: r, hb, h =>
    by_cases h31 : t % 32 = 31
    · simp [hdr, h31] at h
    · match r, hb, h with
      | [], _, h => simp [hdr, h31] at h
      | b :: q, hb, h =>
        have hbb := hb b (by simp)
        have e : ((t :: b :: q).length : Int) = q.length + 2 := by simp only [List.length_cons]; omega
        rw [e]
        simp only [hdr] at h ⊢
        rw [if_neg h31] at h ⊢
        by_cases c1 : b < 128
        · rw [if_pos c1]; exact ⟨by simp, by simp, hbb.1, by simp only; omega, by simp only; omega, by simp⟩
        · rw [if_neg c1] at h ⊢
          by_cases c2 : b = 128 ∨ 131 < b
          · rw [if_pos c2] at h; simp at h
          · rw [if_neg c2] at h ⊢
            by_cases c3 : (q.length : Int) < b - 128
            · rw [if_pos c3] at h; simp at h
            · rw [if_neg c3] at h ⊢
              by_cases c4 : q.headD 0 = 0 ∨ num (q.take (b - 128).toNat) < 128 ∨ 1048576 < num (q.take (b - 128).toNat)
              · rw [if_pos c4] at h; simp at h
              · rw [if_neg c4]; exact ⟨by simp only; omega, by simp only; omega, by simp only; omega, by simp only; omega, by simp only; omega, by simp⟩

theorem rget_loop (d : Nat) (hd1 : d ≤ 100) (ih : ∀ (s : ByteArray) (i : Int), s.size ≤ 1073741824 → 0 ≤ i → i ≤ s.size → Ev (fun k => brookref1_get.f k s i d) (res i (parse d ((bytesOf s).drop i.toNat))))
    (s : ByteArray) (hs : s.size ≤ 1073741824) (t f n : Int) (hf : 0 ≤ f) (hf2 : f ≤ 1073741824) (hn : n = s.size) : ∀ (m : Nat) (i : Int) (acc : List S25), 0 ≤ i → i ≤ n → (n - i).toNat ≤ m → (acc.length : Int) ≤ i →
      Ev (fun k => brookref1_get.l0 k ((d : Int) + 1) f n s i t ⟨#[]⟩ acc) (resL t (f + n) acc (items (parse d) (m + 1) ((bytesOf s).drop i.toNat))) := by
  intro m
  induction m with
  | zero =>
    intro i acc hi hi2 hm hacc
    refine ev_succ ?_
    simp only [brookref1_get.l0]
    refine ev_ite (fun c => absurd c (by omega)) (fun _ => ev_some ?_)
    have : (bytesOf s).drop i.toNat = [] := List.drop_eq_nil_of_le (by rw [by_len]; omega)
    rw [this, items_nil, w64 (by omega) (by omega)]
    simp [resL]
  | succ m ihm =>
    intro i acc hi hi2 hm hacc
    refine ev_succ ?_
    simp only [brookref1_get.l0]
    by_cases hlt : i < n
    · refine ev_ite (fun _ => ?_) (fun c => absurd hlt c)
      have hw : wrap64 ((d : Int) + 1 - 1) = d := by
        rw [w64 (by omega) (by omega)]; omega
      have hg := ih s i hs hi (by omega)
      have hbd : ∀ x ∈ (bytesOf s).drop i.toNat, 0 ≤ x ∧ x < 256 := bd_drop (by_bd s) _
      have hlen : ((bytesOf s).drop i.toNat).length = (n - i).toNat := by rw [List.length_drop, by_len]; omega
      have hne : (bytesOf s).drop i.toNat ≠ [] := by intro h; rw [h] at hlen; simp at hlen; omega
      have hdd : ∀ m : Int, 0 ≤ m → (bytesOf s).drop (i + m).toNat = ((bytesOf s).drop i.toNat).drop m.toNat := by
        intro m hm
        rw [List.drop_drop]
        congr 1
        omega
      rw [items_cons _ _ hne]
      rw [hw]
      refine Ev.bind hg ?_
      have hgood := parse_good d _ hbd
      generalize (bytesOf s).drop i.toNat = L at *
      generalize hp : parse d L = r at *
      by_cases c : r.1 = 0
      · have hm := hgood c
        rw [if_pos c]
        unfold res
        rw [if_pos c]
        refine ev_ite (fun _ => ?_) (fun c2 => absurd rfl c2)
        refine ev_ite (fun _ => ?_) (fun c2 => absurd (show acc.length < 2932031007402 by omega) c2)
        have hnext := ihm (i + r.2.2) (acc ++ [r.2.1]) (by omega) (by omega) (by omega) (by simp; omega)
        rw [hdd _ (by omega)] at hnext
        simp only [eta]
        cases hit : items (parse d) (m + 1) (L.drop r.2.2.toNat) with
        | none => rw [hit] at hnext; simpa [resL] using hnext
        | some ts => rw [hit] at hnext; simpa [resL] using hnext
      · rw [if_neg c]
        unfold res
        rw [if_neg c]
        refine ev_ite (fun c2 => absurd c2 c) (fun _ => ev_some rfl)
    · refine ev_ite (fun c => absurd c hlt) (fun _ => ev_some ?_)
      have : (bytesOf s).drop i.toNat = [] := List.drop_eq_nil_of_le (by rw [by_len]; omega)
      rw [this, items_nil, w64 (by omega) (by omega)]
      simp [resL]

theorem rget_eq : ∀ (d : Nat), d ≤ 100 → ∀ (s : ByteArray) (i : Int), s.size ≤ 1073741824 → 0 ≤ i → i ≤ s.size → Ev (fun k => brookref1_get.f k s i d) (res i (parse d ((bytesOf s).drop i.toNat))) := by
  intro d
  induction d with
  | zero =>
    intro _ s i hs hi hi2
    refine ev_succ ?_
    simp only [brookref1_get.f]
    refine ev_ite (fun c => absurd c (by omega)) (fun _ => ?_)
    rw [show decide (i > (s.size : Int)) = false from decide_eq_false (by omega)]
    refine ev_succ ?_
    simp only [brookref1_get.j0, Bool.false_eq_true, if_false]
    refine Ev.bind ⟨10, fun k hk => rhead_eq s i hs hi hi2 k hk⟩ ?_
    have hl := by_len s
    have hbd : ∀ x ∈ (bytesOf s).drop i.toNat, 0 ≤ x ∧ x < 256 := bd_drop (by_bd s) _
    have hok := @hdr_ok _ hbd
    have hok2 := @hd_ok _ hbd
    have hlf := fun (f n : Int) (hf : 0 ≤ f) (hn : 0 ≤ n) => leaf_at (s := s) hi hf hn
    have hLl : (((bytesOf s).drop i.toNat).length : Int) + i = s.size := by rw [List.length_drop]; omega
    have hbt : (bytesOf s).drop i.toNat ≠ [] → bt s i = ((bytesOf s).drop i.toNat).headD 0 := by
      intro hne
      rw [by_bt, List.headD_eq_head?_getD, List.head?_drop, List.getD_eq_getElem?_getD]
    have hdd := hd_hdr ((bytesOf s).drop i.toNat)
    show Ev _ (res i (node _ none))
    unfold node body
    generalize (bytesOf s).drop i.toNat = L at *
    by_cases c : (hdr L).2.2 = 0
    · obtain ⟨h2, h5, h3, h4, h6, hne⟩ := hok c
      rw [if_pos c] at hdd ⊢
      simp only
      refine ev_ite (fun _ => ?_) (fun c2 => absurd trivial c2)
      rw [w64 (x := (s.size : Int) - (i + (hdr L).1)) (by omega) (by omega)]
      by_cases c6 : (L.length : Int) - (hdr L).1 < (hdr L).2.1
      · rw [if_pos c6] at hdd
        refine ev_ite (fun _ => ev_some ?_) (fun c7 => absurd (show (hdr L).2.1 > (s.size : Int) - (i + (hdr L).1) by omega) c7)
        rw [hdd]
        simp [res]
      · rw [if_neg c6] at hdd
        refine ev_ite (fun c7 => absurd c7 (by omega)) (fun _ => ?_)
        have hL : 0 < L.length := by cases L with | nil => exact absurd rfl hne | cons => simp
        refine ev_ite (fun _ => ?_) (fun c7 => absurd hi c7)
        refine ev_ite (fun _ => ?_) (fun c7 => absurd (show i < (s.size : Int) by omega) c7)
        rw [hbt hne]
        rw [hdd] at hok2 ⊢
        obtain ⟨t, q, _, e1, t0, t1, _⟩ := hok2 rfl
        simp only at e1
        rw [e1, w64 (x := t) (by omega) (by omega), and32 t0 t1, w64 (x := i + (hdr L).1 + (hdr L).2.1) (by omega) (by omega)]
        simp only [if_true]
        by_cases c3 : t / 32 % 2 = 0
        · rw [if_pos c3]
          refine ev_ite (fun _ => ?_) (fun c4 => absurd (show t / 32 % 2 * 32 = 0 by omega) c4)
          refine ev_ite (fun _ => ?_) (fun c4 => absurd (show 0 ≤ i + (hdr L).1 by omega) c4)
          refine ev_ite (fun _ => ?_) (fun c4 => absurd (show i + (hdr L).1 ≤ i + (hdr L).1 + (hdr L).2.1 by omega) c4)
          refine ev_ite (fun _ => ev_some ?_) (fun c4 => absurd (show i + (hdr L).1 + (hdr L).2.1 ≤ (s.size : Int) by omega) c4)
          rw [hlf _ _ (by omega) h3]
          simp [res, Int.add_assoc]
        · rw [if_neg c3]
          refine ev_ite (fun c4 => absurd (show t / 32 % 2 = 0 by omega) c3) (fun _ => ?_)
          refine ev_ite (fun _ => ev_some ?_) (fun c4 => absurd (show ((0 : Nat) : Int) < 1 by omega) c4)
          simp [res]
    · rw [if_neg c] at hdd ⊢
      refine ev_ite (fun c2 => absurd c2 c) (fun _ => ev_some ?_)
      rw [hdd]
      simp [res, c]
  | succ d ih =>
    intro hd1 s i hs hi hi2
    have ih' := ih (by omega)
    refine ev_succ ?_
    simp only [brookref1_get.f]
    refine ev_ite (fun c => absurd c (by omega)) (fun _ => ?_)
    rw [show decide (i > (s.size : Int)) = false from decide_eq_false (by omega)]
    refine ev_succ ?_
    simp only [brookref1_get.j0, Bool.false_eq_true, if_false]
    refine Ev.bind ⟨10, fun k hk => rhead_eq s i hs hi hi2 k hk⟩ ?_
    have hl := by_len s
    have hbd : ∀ x ∈ (bytesOf s).drop i.toNat, 0 ≤ x ∧ x < 256 := bd_drop (by_bd s) _
    have hok := @hdr_ok _ hbd
    have hok2 := @hd_ok _ hbd
    have hlf := fun (f n : Int) (hf : 0 ≤ f) (hn : 0 ≤ n) => leaf_at (s := s) hi hf hn
    have hLl : (((bytesOf s).drop i.toNat).length : Int) + i = s.size := by rw [List.length_drop]; omega
    have hbt : (bytesOf s).drop i.toNat ≠ [] → bt s i = ((bytesOf s).drop i.toNat).headD 0 := by
      intro hne
      rw [by_bt, List.headD_eq_head?_getD, List.head?_drop, List.getD_eq_getElem?_getD]
    have hdd := hd_hdr ((bytesOf s).drop i.toNat)
    have hlx : ∀ f n : Int, 0 ≤ f → 0 ≤ n → i + f + n ≤ s.size → ((s.extract (i + f).toNat (i + f + n).toNat).size : Int) = n := by
      intro f n h1 h2 h3
      rw [ByteArray.size_extract]
      omega
    have hbx : ∀ f n : Int, 0 ≤ f → 0 ≤ n → bytesOf (s.extract (i + f).toNat (i + f + n).toNat) = (((bytesOf s).drop i.toNat).drop f.toNat).take n.toNat := by
      intro f n h1 h2
      rw [by_extract, body_at hi h1 h2]
    show Ev _ (res i (node _ (some (parse d))))
    unfold node body
    generalize (bytesOf s).drop i.toNat = L at *
    by_cases c : (hdr L).2.2 = 0
    · obtain ⟨h2, h5, h3, h4, h6, hne⟩ := hok c
      rw [if_pos c] at hdd ⊢
      simp only
      refine ev_ite (fun _ => ?_) (fun c2 => absurd trivial c2)
      rw [w64 (x := (s.size : Int) - (i + (hdr L).1)) (by omega) (by omega)]
      by_cases c6 : (L.length : Int) - (hdr L).1 < (hdr L).2.1
      · rw [if_pos c6] at hdd
        refine ev_ite (fun _ => ev_some ?_) (fun c7 => absurd (show (hdr L).2.1 > (s.size : Int) - (i + (hdr L).1) by omega) c7)
        rw [hdd]
        simp [res]
      · rw [if_neg c6] at hdd
        refine ev_ite (fun c7 => absurd c7 (by omega)) (fun _ => ?_)
        have hL : 0 < L.length := by cases L with | nil => exact absurd rfl hne | cons => simp
        refine ev_ite (fun _ => ?_) (fun c7 => absurd hi c7)
        refine ev_ite (fun _ => ?_) (fun c7 => absurd (show i < (s.size : Int) by omega) c7)
        rw [hbt hne]
        rw [hdd] at hok2 ⊢
        obtain ⟨t, q, _, e1, t0, t1, _⟩ := hok2 rfl
        simp only at e1
        rw [e1, w64 (x := t) (by omega) (by omega), and32 t0 t1, w64 (x := i + (hdr L).1 + (hdr L).2.1) (by omega) (by omega)]
        simp only [if_true]
        by_cases c3 : t / 32 % 2 = 0
        · rw [if_pos c3]
          refine ev_ite (fun _ => ?_) (fun c4 => absurd (show t / 32 % 2 * 32 = 0 by omega) c4)
          refine ev_ite (fun _ => ?_) (fun c4 => absurd (show 0 ≤ i + (hdr L).1 by omega) c4)
          refine ev_ite (fun _ => ?_) (fun c4 => absurd (show i + (hdr L).1 ≤ i + (hdr L).1 + (hdr L).2.1 by omega) c4)
          refine ev_ite (fun _ => ev_some ?_) (fun c4 => absurd (show i + (hdr L).1 + (hdr L).2.1 ≤ (s.size : Int) by omega) c4)
          rw [hlf _ _ (by omega) h3]
          simp [res, Int.add_assoc]
        · rw [if_neg c3]
          refine ev_ite (fun c4 => absurd (show t / 32 % 2 = 0 by omega) c3) (fun _ => ?_)
          refine ev_ite (fun c4 => absurd (show ¬ (((d + 1 : Nat) : Int) < 1) by omega) (fun h => h c4)) (fun _ => ?_)
          refine ev_ite (fun _ => ?_) (fun c4 => absurd (show 0 ≤ i + (hdr L).1 by omega) c4)
          refine ev_ite (fun _ => ?_) (fun c4 => absurd (show i + (hdr L).1 ≤ i + (hdr L).1 + (hdr L).2.1 by omega) c4)
          refine ev_ite (fun _ => ?_) (fun c4 => absurd (show i + (hdr L).1 + (hdr L).2.1 ≤ (s.size : Int) by omega) c4)
          have hB : ((L.drop (hdr L).1.toNat).take (hdr L).2.1.toNat).length = (hdr L).2.1.toNat := by rw [List.length_take, List.length_drop]; omega
          have hx := hlx (hdr L).1 (hdr L).2.1 (by omega) h3 (by omega)
          have := rget_loop d (by omega) ih' (s.extract (i + (hdr L).1).toNat (i + (hdr L).1 + (hdr L).2.1).toNat) (by rw [ByteArray.size_extract]; omega) t (i + (hdr L).1) (hdr L).2.1 (by omega) (by omega) hx.symm (hdr L).2.1.toNat 0 [] (by omega) (by omega) (by omega) (by simp)
          rw [hbx _ _ (by omega) h3] at this
          simp only [Int.toNat_zero, List.drop_zero] at this
          rw [hB]
          rw [show (((d + 1 : Nat) : Int)) = (d : Int) + 1 by omega]
          cases hit : items (parse d) ((hdr L).2.1.toNat + 1) ((L.drop (hdr L).1.toNat).take (hdr L).2.1.toNat) with
          | none => rw [hit] at this; simpa [resL, res] using this
          | some ts => rw [hit] at this; simpa [resL, res, Int.add_assoc] using this
    · rw [if_neg c] at hdd ⊢
      refine ev_ite (fun c2 => absurd c2 c) (fun _ => ev_some ?_)
      rw [hdd]
      simp [res, c]
theorem GetTlv_out {s : ByteArray} {i : Int} (h : i < 0 ∨ (s.size : Int) < i) : Ev (fun k => brookref1_GetTlv.f k s i) (0, ⟨#[]⟩, [], 0, 1) := by
  have h2 : Ev (fun k => brookref1_get.f k s i 12) (0, ⟨#[]⟩, [], 0, 1) := by
    refine ev_succ ?_
    simp only [brookref1_get.f]
    by_cases c : i < 0
    · refine ev_ite (fun _ => ?_) (fun c2 => absurd c c2)
      refine ev_succ ?_
      simp only [brookref1_get.j0, if_true]
      exact ev_some rfl
    · refine ev_ite (fun c2 => absurd c2 c) (fun _ => ?_)
      rw [show decide (i > (s.size : Int)) = true from decide_eq_true (by omega)]
      refine ev_succ ?_
      simp only [brookref1_get.j0, if_true]
      exact ev_some rfl
  unfold brookref1_GetTlv.f
  exact Ev.bind h2 (ev_some rfl)
theorem GetTlv_in {s : ByteArray} {i : Int} (hs : s.size ≤ 1073741824) (h0 : 0 ≤ i) (h1 : i ≤ s.size) : Ev (fun k => brookref1_GetTlv.f k s i) (res i (parse 12 ((bytesOf s).drop i.toNat))) := by
  unfold brookref1_GetTlv.f
  exact Ev.bind (rget_eq 12 (by omega) s i hs h0 h1) (ev_some rfl)

end Go.Proofs.Ytjlcmahknldjpaa.Pure
