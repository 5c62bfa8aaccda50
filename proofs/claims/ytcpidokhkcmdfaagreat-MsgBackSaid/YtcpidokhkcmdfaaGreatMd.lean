/- Entries found, by numbers: they come, and are not great. Conditions: those of each theorem. -/
import Derived.Test.YtcpidokhkcmdfaaGreatMc
namespace Go.Proofs.YtcpidokhkcmdfaaGreat.B
open Go Go.Proofs Go.Proofs.YtcpidokhkcmdfaaGreat.I
set_option linter.unusedVariables false
set_option linter.unusedSimpArgs false
set_option maxRecDepth 100000
/-- A small number. -/
def Sm (x : Int) : Prop := -1000 ≤ x ∧ x < 1000
theorem sm_by {x : Int} (h : By x) : Sm x := ⟨by have := h.1; omega, by have := h.2; omega⟩
theorem sm_tm {x c : Int} (h : By x) (hc : 0 < c ∧ c ≤ 100) : Sm (Int.tmod x c) := by
  have := tmr h.1 hc.1
  exact ⟨by omega, by omega⟩
theorem sm_sub {x : Int} (h : By x) : Sm (IntKind.wrap .i64 (x - 100)) := by
  have := h.1; have := h.2
  rw [w64 (by omega) (by omega)]
  exact ⟨by omega, by omega⟩
/-- An attribute's cells. -/
def pLit (e : List D) : Prop := ∃ t vs, e = [D.str t, D.lit (dSs vs)] ∧ t.length ≤ 40 ∧ sS vs ≤ 80
def pQ (e : List D) : Prop := ∃ t vs, (e = [D.str t, D.lit (dSs vs)] ∨ e = [D.str t, D.list (dSs vs)]) ∧ t.length ≤ 40 ∧ sS vs ≤ 100
theorem pLit.q {e : List D} (h : pLit e) : pQ e := by
  obtain ⟨t, vs, h1, h2, h3⟩ := h
  exact ⟨t, vs, .inl h1, h2, by omega⟩
theorem lit1 {t s : List UInt8} (ht : t.length ≤ 40) (hs : s.length ≤ 60) : pLit [D.str t, D.lit [[D.str s]]] := ⟨t, [s], rfl, ht, by simp only [sS]; omega⟩
theorem lit2 {t s s' : List UInt8} (ht : t.length ≤ 40) (hs : s.length ≤ 40) (hs' : s'.length ≤ 30) : pLit [D.str t, D.lit [[D.str s], [D.str s']]] := ⟨t, [s, s'], rfl, ht, by simp only [sS]; omega⟩
def AM (n : Nat) (L : List (List D)) : Prop := Tab pQ L ∧ 3 ≤ L.length ∧ L.length ≤ n
def AL (n : Nat) (L : List (List D)) : Prop := AM n L ∧ ∀ e, L[1]? = some e → pLit e
theorem AL.am {n : Nat} {L : List (List D)} (h : AL n L) : AM n L := h.1
theorem s_get1 {β : Type} {n : Nat} {L : List (List D)} (h : AL n L) {F : Nat → List D → Option β} {Q : β → Prop} (k : ∀ e, pLit e → Yes (F 1 e) Q) : Yes ((at_ L 1).bind fun j => (L[j]?).bind fun e => F j e) Q := by
  have hl := h.1.2.1
  have h1 : 1 < L.length := by omega
  refine Yes.bind (P := fun j => j = 1) ⟨1, by unfold at_; rw [if_pos (by omega)]; rfl, rfl⟩ fun j hj => ?_
  subst hj
  have he : L[1]? = some L[1] := List.getElem?_eq_getElem h1
  rw [he]
  exact k _ (h.2 _ he)
theorem sz_pQ : ∀ e, pQ e → e.length = 2 := by
  rintro _ ⟨t, vs, h | h, _⟩ <;> rw [h] <;> rfl
theorem AL_set {n : Nat} {L : List (List D)} (h : AL n L) {e : List D} (he : pLit e) {s : List UInt8} (hs : s.length ≤ 60) : AL n (List.set L 1 (splice e 1 [D.lit [[D.str s]]])) := by
  obtain ⟨t, vs, rfl, ht, _⟩ := he
  have hp : pLit (splice [D.str t, D.lit (dSs vs)] 1 [D.lit [[D.str s]]]) := lit1 ht hs
  refine ⟨⟨?_, by rw [List.length_set]; exact h.1.2.1, by rw [List.length_set]; exact h.1.2.2⟩, ?_⟩
  · intro x hx
    rcases List.mem_or_eq_of_mem_set hx with hx | rfl
    · exact h.1.1 x hx
    · exact hp.q
  · intro x hx
    have hl := h.1.2.1
    rw [List.getElem?_set_self (by omega)] at hx
    injection hx with hx; subst hx
    exact hp
theorem AM_set {n : Nat} {L : List (List D)} (h : AL n L) {e : List D} (he : pLit e) {vs : List (List UInt8)} (hs : sS vs ≤ 100) : AM n (List.set L 1 (splice e 1 [D.list (dSs vs)])) := by
  obtain ⟨t, vs', rfl, ht, _⟩ := he
  refine ⟨?_, by rw [List.length_set]; exact h.1.2.1, by rw [List.length_set]; exact h.1.2.2⟩
  intro x hx
  rcases List.mem_or_eq_of_mem_set hx with hx | rfl
  · exact h.1.1 x hx
  · exact ⟨t, vs, .inr rfl, ht, hs⟩
theorem s_appM {β : Type} {n : Nat} {X Y : List (List D)} (hX : AM n X) (hY : Tab pQ Y) (hb : n ≤ 100 ∧ Y.length ≤ 2) {F : List (List D) → Option β} {Q : β → Prop} (k : ∀ r, AM (n + 2) r → Yes (F r) Q) : Yes ((app 2 40 X Y).bind F) Q := by
  have := hX.2.2
  rw [app_eq (by omega) (fun y hy => sz_pQ y (hY y hy))]
  refine k _ ⟨?_, by rw [List.length_append]; have := hX.2.1; omega, by rw [List.length_append]; omega⟩
  intro x hx
  rcases List.mem_append.1 hx with hx | hx
  · exact hX.1 x hx
  · exact hY x hx
theorem s_appA {β : Type} {n : Nat} {X Y : List (List D)} (hX : AL n X) (hY : Tab pQ Y) (hb : n ≤ 100 ∧ Y.length ≤ 2) {F : List (List D) → Option β} {Q : β → Prop} (k : ∀ r, AL (n + 2) r → Yes (F r) Q) : Yes ((app 2 40 X Y).bind F) Q := by
  have h2 := hX.1.2.2
  have h3 := hX.1.2.1
  rw [app_eq (by omega) (fun y hy => sz_pQ y (hY y hy))]
  refine k _ ⟨⟨?_, by rw [List.length_append]; omega, by rw [List.length_append]; omega⟩, ?_⟩
  · intro x hx
    rcases List.mem_append.1 hx with hx | hx
    · exact hX.1.1 x hx
    · exact hY x hx
  · intro e he
    rw [List.getElem?_append_left (by omega)] at he
    exact hX.2 e he
theorem s_lit {β : Type} {e : List D} (h : pLit e) {F : List (List D) × Unit → Option β} {Q : β → Prop} (k : ∀ vs : List (List UInt8), sS vs ≤ 80 → Yes (F (dSs vs, ())) Q) : Yes ((decs [.lit] (sub e 1 1)).bind F) Q := by
  obtain ⟨t, vs, rfl, ht, hv⟩ := h
  exact k vs hv
theorem s_appL {β : Type} {vs : List (List UInt8)} {s : List UInt8} (hv : sS vs ≤ 80) (hs : s.length ≤ 10) {F : List (List D) → Option β} {Q : β → Prop} (k : sS (vs ++ [s]) ≤ 100 → Yes (F (dSs (vs ++ [s]))) Q) : Yes ((appL 1 16 (dSs vs) [[D.str s]]).bind F) Q := by
  have hl : vs.length ≤ sS vs := by
    clear hv k
    induction vs with
    | nil => exact Nat.zero_le _
    | cons a r ih => simp only [sS, List.length_cons]; omega
  unfold appL
  rw [if_pos (by intro x hx; obtain ⟨a, _, rfl⟩ := List.mem_map.1 hx; rfl), app_str vs s (by omega)]
  exact k (by rw [sS_app]; omega)
theorem s_cat {β : Type} {s t : List UInt8} (hs : s.length ≤ 80) (ht : t.length ≤ 80) {F : List UInt8 → Option β} {Q : β → Prop} (k : ∀ r : List UInt8, r.length = s.length + t.length → Yes (F r) Q) : Yes ((cat s t).bind F) Q := (yes_cat (by omega) (by omega)).bind k
theorem s_catl {β : Type} {s t : List UInt8} (hs : s.length ≤ 20) (ht : t.length ≤ 80) {F : List UInt8 → Option β} {Q : β → Prop} (k : ∀ r : List UInt8, r.length ≤ 20 + t.length → Yes (F r) Q) : Yes ((cat s t).bind F) Q := s_cat (by omega) ht fun r hr => k r (by omega)
theorem s_catr {β : Type} {s t : List UInt8} (hs : s.length ≤ 80) (ht : t.length ≤ 20) {F : List UInt8 → Option β} {Q : β → Prop} (k : ∀ r : List UInt8, r.length ≤ s.length + 20 → Yes (F r) Q) : Yes ((cat s t).bind F) Q := s_cat hs (by omega) fun r hr => k r (by omega)
theorem flats_atts : ∀ L : List (List D), Tab pQ L → ∃ l : List Att, flats L = dAs l ∧ sAs l ≤ L.length * 150
  | [], _ => ⟨[], rfl, by simp [sAs]⟩
  | e :: L, h => by
    obtain ⟨t, vs, he, ht, hv⟩ := h e (by simp)
    obtain ⟨l, hl, hs⟩ := flats_atts L fun x hx => h x (List.mem_cons_of_mem _ hx)
    refine ⟨⟨t, vs⟩ :: l, ?_, ?_⟩
    · have e1 : flats (e :: L) = e.map flat1 :: flats L := rfl
      rw [e1, hl]
      rcases he with rfl | rfl <;> rfl
    · simp only [sAs, List.length_cons, Nat.add_mul]; omega
/-- An entry that is not great. -/
def QE (r : (List UInt8 × List (List D) × Unit) × Unit) : Prop := ∃ (d : List UInt8) (l : List Att), r = ((d, dAs l, ()), ()) ∧ d.length ≤ 200 ∧ sAs l ≤ 4000
theorem s_fin {n : Nat} {L : List (List D)} {d : List UInt8} (hL : AM n L) (hn : n ≤ 20) (hd : d.length ≤ 200) : Yes (some ((d, flats L, ()), ())) QE := by
  obtain ⟨l, hl, hs⟩ := flats_atts L hL.1
  have := hL.2.2
  exact .some ⟨d, l, by rw [hl], hd, by omega⟩
section
variable {call : Oracle} {lp : Loops} (hW : Fix Tryz.prog hs call lp)
include hW
theorem s_pre {p : List UInt8} (hp : p.length ≤ 20) {n : Int} (h : Sm n) {β : Type} {F : List UInt8 → Option β} {Q : β → Prop} (k : ∀ s : List UInt8, s.length ≤ 30 → Yes (F s) Q) : Yes ((brookref1_Digits.f call n).bind fun t => (cat p t.1).bind F) Q := pre_yes hW hp n h.1 h.2 k
theorem s_dig {n : Int} (h : Sm n) {β : Type} {F : List UInt8 × Unit → Option β} {Q : β → Prop} (k : ∀ s : List UInt8, s.length ≤ 10 → Yes (F (s, ())) Q) : Yes ((brookref1_Digits.f call n).bind F) Q := (Digits_yes hW n h.1 h.2).bind fun ⟨s, _⟩ hs => k s hs
theorem Person_yes (s : List UInt8) (hs : s.length ≤ 30) : Yes (brooklaw4_Person.f call s) fun r => r.1.1.length ≤ 60 ∧ AL 3 r.1.2.1 := by
  rw [brooklaw4_Person.eq hW]
  refine s_cat (by decide) (by omega) fun t1 h1 => s_cat (by simp at h1; omega) (by decide) fun t2 h2 => .some ⟨?_, ⟨?_, by simp, by simp⟩, ?_⟩
  · simp at h1 h2 ⊢; omega
  · exact .cons (lit1 (by decide) (by omega)).q (.cons (lit1 (by decide) (by decide)).q (.cons (lit1 (by decide) (by decide)).q .nil))
  · intro e he
    injection he with he
    subst he
    exact lit1 (by decide) (by decide)
set_option maxHeartbeats 4000000 in
theorem Make4_loop (l : List Int) (hl : bytesI l) (hl2 : l.length ≤ 10) (y : List UInt8 × List (List D) × Unit) : ∀ (m : Nat) (x4 : Int) (k : List (List D)), 0 ≤ x4 → x4 ≤ 8 → (8 - x4).toNat ≤ m → KOk 8 k → Yes (brooklaw4_Make.l3 call lp (rowI l) x4 y k) QE := by
  intro m
  induction m with
  | zero =>
    intro x4 k h0 h1 hm hk
    rw [brooklaw4_Make.l3.eq hW, rowI_len]
    refine Yes.bind (P := fun z => z = false) (.cond (fun hc => absurd (of_decide_eq_true hc) (by omega)) fun _ => .some rfl) fun z hz => ?_
    subst hz
    rw [cond_false]
    refine yes_read hk ⟨by decide, by decide⟩ fun t8 ht8 => ?_
    refine s_pre hW (by decide) (sm_tm ht8 (by decide)) fun t10 ht10 => ?_
    refine Yes.bind (Person_yes hW t10 ht10) fun ⟨⟨dn, L0, _⟩, _⟩ ⟨hdn, hL0⟩ => ?_
    simp only [] at hdn hL0 ⊢
    clear hm h0 h1
    repeat' (first
      | exact s_fin (by assumption) (by decide) (by first | omega | (simp only [List.length_cons, List.length_nil] at *; omega))
      | exact s_fin (AL.am (by assumption)) (by decide) (by first | omega | (simp only [List.length_cons, List.length_nil] at *; omega))
      | refine Yes.cond (fun _ => ?_) fun _ => ?_
      | refine yes_read hk ⟨by decide, by decide⟩ fun v hv => ?_
      | refine s_get1 (by assumption) fun e he => ?_
      | refine s_lit (by assumption) fun vs hvs => ?_
      | refine s_appL (by assumption) (by decide) fun hvs => ?_
      | refine s_pre hW (by decide) (by first | exact sm_by (by assumption) | exact sm_tm (by assumption) (by decide)) fun s hs => ?_
      | refine s_dig hW (by first | exact sm_by (by assumption) | exact sm_sub (by assumption)) fun s hs => ?_
      | refine s_appA (by first | assumption | exact AL_set (by assumption) (by assumption) (by decide)) (by repeat' (first | exact Tab.nil | refine Tab.cons ?_ ?_ | exact (lit1 (by decide) (by first | decide | omega | (simp only []; omega))).q | exact (lit2 (by decide) (by omega) (by decide)).q)) (by simp) fun r hr => ?_
      | refine s_appM (by first | assumption | exact AM_set (by assumption) (by assumption) (by assumption)) (by repeat' (first | exact Tab.nil | refine Tab.cons ?_ ?_ | exact (lit1 (by decide) (by first | decide | omega | (simp only []; omega))).q | exact (lit2 (by decide) (by omega) (by decide)).q)) (by simp) fun r hr => ?_
      | refine s_catl (by decide) (by omega) fun r hr => ?_
      | refine s_catr (by omega) (by decide) fun r hr => ?_)
  | succ m ih =>
    intro x4 k h0 h1 hm hk
    by_cases hc : x4 < 8 ∧ x4 < l.length
    · rw [brooklaw4_Make.l3.eq hW, rowI_len]
      simp only [decide_eq_true hc.1, decide_eq_true hc.2, cond_true, Option.bind_some]
      refine yes_byte hl ⟨h0, hc.2⟩ fun v hv => ?_
      refine yes_keep hk ⟨h0, hc.1⟩ (w64r hv) fun k' hk' => ?_
      rw [w64 (x := x4 + 1) (by omega) (by omega)]
      exact ih (x4 + 1) k' (by omega) (by omega) (by omega) hk'
    · have hz : (bif decide (x4 < 8) then some (decide (x4 < ((rowI l).length : Int))) else some false) = (bif decide ((8 : Int) < 8) then some (decide ((8 : Int) < ((rowI l).length : Int))) else some false) := by
        rw [rowI_len]
        by_cases h4 : x4 < 8
        · rw [decide_eq_true h4, decide_eq_false (show ¬ x4 < (l.length : Int) from fun h => hc ⟨h4, h⟩)]; rfl
        · rw [decide_eq_false h4]; rfl
      have := ih 8 k (by omega) (by omega) (by omega) hk
      rw [brooklaw4_Make.l3.eq hW] at this ⊢
      rw [hz]
      simp only [show decide ((8 : Int) < 8) = false from rfl, cond_false, Option.bind_some] at this ⊢
      exact this
theorem Make4_yes (l : List Int) (hl : bytesI l) (hl2 : l.length ≤ 10) : Yes (brooklaw4_Make.f call (rowI l)) QE := by
  rw [brooklaw4_Make.eq hW]
  exact Make4_loop hW l hl hl2 _ 8 0 _ (by omega) (by omega) (by omega) (KOk.zero 8)
end
end Go.Proofs.YtcpidokhkcmdfaaGreat.B
