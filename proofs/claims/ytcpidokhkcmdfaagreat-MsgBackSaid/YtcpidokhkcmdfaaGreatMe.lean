/- Entries put, by numbers: they come, and are not great. Conditions: those of each theorem; Facts of closed calls. -/
import Derived.Test.YtcpidokhkcmdfaaGreatMd
namespace Go.Proofs.YtcpidokhkcmdfaaGreat.B
open Go Go.Proofs Go.Proofs.YtcpidokhkcmdfaaGreat.I
set_option linter.unusedVariables false
set_option linter.unusedSimpArgs false
set_option maxRecDepth 100000
/-- The names by number. -/
def nm12 : List (List UInt8) := [[111, 61, 120], [111, 117, 61, 97, 44, 111, 61, 120], [111, 117, 61, 98, 44, 111, 61, 120], [99, 110, 61, 110, 48, 44, 111, 117, 61, 97, 44, 111, 61, 120], [99, 110, 61, 110, 49, 44, 111, 117, 61, 97, 44, 111, 61, 120], [99, 110, 61, 110, 50, 44, 111, 117, 61, 98, 44, 111, 61, 120], [99, 110, 61, 110, 51, 44, 111, 61, 120], [99, 110, 61, 110, 52], [111, 117, 61, 99, 44, 111, 117, 61, 97, 44, 111, 61, 120], [99, 110, 61, 110, 53, 44, 111, 117, 61, 99, 44, 111, 117, 61, 97, 44, 111, 61, 120], [111, 61, 121], [99, 110, 61, 110, 48, 44, 111, 61, 121]]
/-- The types of such entries. -/
def tp7 : List (List UInt8) := [[111], [111, 117], [99, 110], [111, 98, 106, 101, 99, 116, 99, 108, 97, 115, 115], [100, 101, 115, 99, 114, 105, 112, 116, 105, 111, 110], [115, 110], [117, 115, 101, 114, 112, 97, 115, 115, 119, 111, 114, 100]]
structure Facts (call : Oracle) : Prop where
  dn : ∀ s ∈ nm12, ∃ L t v, brookref1_ParseDn.f call s = some ((L, true, ()), ()) ∧ ix 2 L 0 = some [D.str t, D.str v] ∧ t ∈ tp7 ∧ v.length ≤ 20 ∧ ∃ d : List UInt8, brookref1_TextDn.f call L = some (d, ()) ∧ d.length ≤ 60
  canon : ∀ t ∈ tp7, ∃ (r : List UInt8) (b : Bool), brookref1_Canon.f call t = some ((r, b, ()), ()) ∧ r.length ≤ 40
def pN (e : List D) : Prop := ∃ s ∈ nm12, e = [D.str s]
theorem pN.sz : ∀ e, pN e → e.length = 1 := by rintro _ ⟨s, _, rfl⟩; rfl
theorem nm_len : ∀ s ∈ nm12, s.length ≤ 30 := by decide
theorem tp_len : ∀ t ∈ tp7, t.length ≤ 40 := by decide
/-- An attribute whose type is told. -/
def pT (e : List D) : Prop := ∃ t vs, e = [D.str t, D.list (dSs vs)] ∧ t ∈ tp7 ∧ sS vs ≤ 90
/-- An attribute as it comes. -/
def pA (e : List D) : Prop := ∃ t vs, e = [D.str t, D.list (dSs vs)] ∧ t.length ≤ 40 ∧ sS vs ≤ 90
theorem pT.sz : ∀ e, pT e → e.length = 2 := by rintro _ ⟨t, vs, rfl, _⟩; rfl
theorem pA.sz : ∀ e, pA e → e.length = 2 := by rintro _ ⟨t, vs, rfl, _⟩; rfl
theorem yes_subT {p : List D → Prop} {L : List (List D)} (ht : Tab p L) (hz : ∀ e, p e → e.length = 2) {a b : Int} (h0 : 0 ≤ a) (h1 : a ≤ b) (h2 : b ≤ L.length) : Yes (subz 2 L a b) fun r => Tab p r ∧ (r.length : Int) = b - a := by
  unfold subz
  rw [if_pos fun y hy => hz y (ht y hy), subs_eq _ h0 h1 h2]
  refine .some ⟨fun x hx => ht x (List.mem_of_mem_drop (List.mem_of_mem_take hx)), ?_⟩
  rw [List.length_take, List.length_drop]
  omega
theorem yes_appT {p : List D → Prop} {X Y : List (List D)} (hX : Tab p X) (hY : Tab p Y) (hz : ∀ e, p e → e.length = 2) (hb : X.length + Y.length ≤ 1000) : Yes (app 2 40 X Y) fun r => Tab p r ∧ r.length = X.length + Y.length := by
  rw [app_eq (by omega) (fun y hy => hz y (hY y hy))]
  refine .some ⟨fun x hx => ?_, List.length_append⟩
  rcases List.mem_append.1 hx with hx | hx
  · exact hX x hx
  · exact hY x hx
theorem len_sS : ∀ vs : List (List UInt8), vs.length ≤ sS vs
  | [] => Nat.zero_le _
  | a :: r => by have := len_sS r; simp only [sS, List.length_cons]; omega
def TB (n : Nat) (X : List (List D)) : Prop := Tab pT X ∧ X.length ≤ n
theorem s_appT {β : Type} {n : Nat} {X Y : List (List D)} (hX : TB n X) (hY : TB 1 Y) (hn : n ≤ 15) {F : List (List D) → Option β} {Q : β → Prop} (k : ∀ r, TB (n + 1) r → Yes (F r) Q) : Yes ((app 2 40 X Y).bind F) Q := by
  have h1 := hX.2; have h2 := hY.2
  exact (yes_appT hX.1 hY.1 pT.sz (by omega)).bind fun r ⟨g1, g2⟩ => k r ⟨g1, by omega⟩
theorem one7 {t s : List UInt8} (h : t ∈ tp7) (hs : s.length ≤ 60) : pT [D.str t, D.list [[D.str s]]] := ⟨t, [s], rfl, h, by simp only [sS]; omega⟩
theorem atts_of : ∀ L : List (List D), Tab pA L → ∃ l : List Att, L = dAs l ∧ sAs l ≤ L.length * 150
  | [], _ => ⟨[], rfl, by simp [sAs]⟩
  | e :: L, h => by
    obtain ⟨t, vs, he, ht, hv⟩ := h e (by simp)
    obtain ⟨l, hl, hs⟩ := atts_of L fun x hx => h x (List.mem_cons_of_mem _ hx)
    refine ⟨⟨t, vs⟩ :: l, ?_, ?_⟩
    · rw [he, hl]; rfl
    · simp only [sAs, List.length_cons, Nat.add_mul]; omega
section
variable {call : Oracle} {lp : Loops} (hW : Fix Tryz.prog hs call lp)
include hW
theorem Names_mem : Yes (brooklaw8_Names.f call) fun r => Tab pN r.1 ∧ r.1.length = 12 := by
  rw [brooklaw8_Names.eq hW]
  refine .some ⟨?_, rfl⟩
  intro e he
  have : ∀ s ∈ nm12, pN [D.str s] := fun s hs => ⟨s, hs, rfl⟩
  have he : e ∈ dSs nm12 := he
  obtain ⟨s, hs, rfl⟩ := List.mem_map.1 he
  exact this s hs
theorem norm_in (x5 : Int) (y1 y2 : List UInt8 × List (List D) × Unit) (dn : List UInt8) (L : List (List D)) (hL : Tab pA L) (hlen : L.length ≤ 50) (t : List UInt8) (vs : List (List UInt8)) (ht : t.length ≤ 40) (hv : sS vs ≤ 90) {Q : (List UInt8 × List (List D) × Unit) × Unit → Prop}
    (k : ∀ L', Tab pA L' → L'.length = L.length + 1 → Yes (brookref1_NormEntry.l6 call lp (IntKind.wrap .i64 (x5 + 1)) y1 y2 (dn, L', ())) Q) : ∀ (m : Nat) (x8 : Int), 0 ≤ x8 → x8 ≤ L.length → x8.toNat ≤ m → Yes (brookref1_NormEntry.l13 call lp x5 x8 y1 y2 (dn, L, ()) (t, dSs vs, ())) Q := by
  intro m
  have fin : ∀ x8 : Int, 0 ≤ x8 → x8 ≤ L.length → Yes ((subz 2 L 0 x8).bind fun t3 => (app 2 40 [] t3).bind fun t4 => (app 2 40 t4 [[D.str t, D.list (dSs vs)]]).bind fun t5 => (subz 2 L x8 (L.length : Int)).bind fun t6 => (app 2 40 t5 t6).bind fun t7 => brookref1_NormEntry.l6 call lp (IntKind.wrap .i64 (x5 + 1)) y1 y2 (dn, t7, ())) Q := by
    intro x8 h0 h1
    refine (yes_subT hL pA.sz (by omega) h0 h1).bind fun t3 ⟨g1, g2⟩ => ?_
    refine (yes_appT (X := []) .nil g1 pA.sz (by simp; omega)).bind fun t4 ⟨g3, g4⟩ => ?_
    have hn : Tab pA [[D.str t, D.list (dSs vs)]] := .cons ⟨t, vs, rfl, ht, hv⟩ .nil
    refine (yes_appT g3 hn pA.sz (by simp at g4 ⊢; omega)).bind fun t5 ⟨g5, g6⟩ => ?_
    refine (yes_subT hL pA.sz h0 h1 (by omega)).bind fun t6 ⟨g7, g8⟩ => ?_
    simp only [List.length_cons, List.length_nil] at g4 g6
    refine (yes_appT g5 g7 pA.sz (by omega)).bind fun t7 ⟨g9, g10⟩ => ?_
    exact k t7 g9 (by omega)
  induction m with
  | zero =>
    intro x8 h0 h1 hm
    rw [brookref1_NormEntry.l13.eq hW, decide_eq_false (show ¬ 0 < x8 by omega), cond_false]
    exact fin x8 h0 h1
  | succ m ih =>
    intro x8 h0 h1 hm
    rw [brookref1_NormEntry.l13.eq hW]
    refine .cond (fun hc => ?_) fun _ => fin x8 h0 h1
    have hc := of_decide_eq_true hc
    rw [w64 (x := x8 - 1) (by omega) (by omega)]
    refine yes_ix hL pA.sz ⟨by omega, by show x8 - 1 < L.length; omega⟩ fun e he => ?_
    obtain ⟨t', vs', rfl, _, _⟩ := he
    have hd : decs [.str] (sub [D.str t', D.list (dSs vs')] 0 1) = some (t', ()) := rfl
    rw [hd]
    simp only [Option.bind_some]
    refine .cond (fun _ => ih (x8 - 1) (by omega) (by omega) (by omega)) fun _ => fin x8 h0 h1
theorem norm_loop (hF : Facts call) (dn0 : List UInt8) (A : List (List D)) (hA : Tab pT A) (hAl : A.length ≤ 20) (y2 : List UInt8 × List (List D) × Unit) (dn : List UInt8) (hdn : dn.length ≤ 60) : ∀ (m : Nat) (x5 : Int) (L : List (List D)), 0 ≤ x5 → x5 ≤ A.length → (A.length - x5.toNat) ≤ m → (L.length : Int) = x5 → Tab pA L → Yes (brookref1_NormEntry.l6 call lp x5 (dn0, A, ()) y2 (dn, L, ())) QE := by
  intro m
  have fin : ∀ L : List (List D), Tab pA L → L.length ≤ 20 → Yes (some ((dn, L, ()), ())) QE := by
    intro L hL hl
    obtain ⟨l, hl1, hl2⟩ := atts_of L hL
    exact .some ⟨dn, l, by rw [hl1], by omega, by omega⟩
  induction m with
  | zero =>
    intro x5 L h0 h1 hm hl hL
    rw [brookref1_NormEntry.l6.eq hW, decide_eq_false (show ¬ x5 < (A.length : Int) by omega), cond_false]
    exact fin L hL (by omega)
  | succ m ih =>
    intro x5 L h0 h1 hm hl hL
    rw [brookref1_NormEntry.l6.eq hW]
    refine .cond (fun hc => ?_) fun _ => fin L hL (by omega)
    have hc : x5 < (A.length : Int) := of_decide_eq_true hc
    have hget : ix 2 A x5 = some (A[x5.toNat]'(by omega)) := ix_eq h0 hc fun e he => pT.sz e (hA e he)
    obtain ⟨t, vs, he, ht, hv⟩ := hA _ (List.getElem_mem (show x5.toNat < A.length by omega))
    rw [he] at hget
    have d1 : decs [.str] (sub [D.str t, D.list (dSs vs)] 0 1) = some (t, ()) := rfl
    have d2 : decs [.list] (sub [D.str t, D.list (dSs vs)] 1 1) = some (dSs vs, ()) := rfl
    have hlv : vs.length ≤ sS vs := len_sS vs
    have d3 : app 1 16 [] (dSs vs) = some (dSs vs) := by
      rw [app_eq (by simp only [List.length_nil, dSs_len]; omega) (by intro y hy; obtain ⟨a, _, rfl⟩ := List.mem_map.1 hy; rfl)]; rfl
    obtain ⟨c, b, hcn, hcl⟩ := hF.canon t ht
    simp only [hget, d1, d2, d3, hcn, Option.bind_some]
    have step : ∀ t' : List UInt8, t'.length ≤ 40 → Yes (brookref1_NormEntry.l13 call lp x5 (L.length : Int) (dn0, A, ()) y2 (dn, L, ()) (t', dSs vs, ())) QE := by
      intro t' ht'
      refine norm_in hW x5 _ _ dn L hL (by omega) t' vs ht' hv (fun L' h1' h2' => ?_) L.length (L.length : Int) (by omega) (by omega) (by omega)
      rw [w64 (x := x5 + 1) (by omega) (by omega)]
      exact ih (x5 + 1) L' (by omega) (by omega) (by omega) (by omega) h1'
    exact .cond (fun _ => step c hcl) fun _ => step t (tp_len t ht)
theorem Norm_yes (hF : Facts call) {s : List UInt8} (hs : s ∈ nm12) {A : List (List D)} (hA : Tab pT A) (hAl : A.length ≤ 20) : Yes (brookref1_NormEntry.f call (s, A, ())) QE := by
  obtain ⟨L, t, v, h1, h2, h3, h4, d, h5, h6⟩ := hF.dn s hs
  rw [brookref1_NormEntry.eq hW]
  simp only [h1, h5, Option.bind_some, cond_true]
  exact norm_loop hW hF s A hA hAl _ d h6 A.length 0 [] (by omega) (by omega) (by omega) (by simp) .nil
theorem s_norm (hF : Facts call) {s : List UInt8} (hs : s ∈ nm12) {n : Nat} {A : List (List D)} (hA : TB n A) (hn : n ≤ 20) : Yes ((brookref1_NormEntry.f call (s, A, ())).bind fun t => some (t.1, ())) QE := (Norm_yes hW hF hs hA.1 (by have := hA.2; omega)).bind fun r hr => .some (by
    obtain ⟨d, l, rfl, h1, h2⟩ := hr
    exact ⟨d, l, rfl, h1, h2⟩)
theorem Entry_yes (hF : Facts call) (i n : Int) (hi : By i) (hn : By n) : Yes (brooklaw8_Entry.f call i n) QE := by
  rw [brooklaw8_Entry.eq hW]
  refine Yes.bind (Names_mem hW) fun t1 ⟨g1, g2⟩ => ?_
  refine yes_ix g1 pN.sz (by rw [g2]; exact tmr (c := 12) hi.1 (by decide)) fun e he => ?_
  obtain ⟨s, hs, rfl⟩ := he
  have d1 : decs [.str] (sub [D.str s] 0 1) = some (s, ()) := rfl
  obtain ⟨L, t, v, h1, h2, h3, h4, d, h5, h6⟩ := hF.dn s hs
  have d2 : decs [.str, .str] (sub [D.str t, D.str v] 0 2) = some (t, v, ()) := rfl
  simp only [d1, d2, h1, h2, Option.bind_some]
  have hn64 := w64r hn
  repeat' (first
    | refine s_appT (n := 3) ⟨by repeat' (first | exact Tab.nil | refine Tab.cons ?_ ?_ | exact one7 (by first | assumption | decide) (by first | decide | omega)), by simp⟩ ⟨by repeat' (first | exact Tab.nil | refine Tab.cons ?_ ?_ | exact one7 (by first | assumption | decide) (by first | decide | omega)), by simp⟩ (by decide) fun r hr => ?_
    | refine s_appT (n := 4) (by assumption) ⟨by repeat' (first | exact Tab.nil | refine Tab.cons ?_ ?_ | exact one7 (by first | assumption | decide) (by first | decide | omega)), by simp⟩ (by decide) fun r hr => ?_
    | refine s_norm hW hF hs (n := 5) (by assumption) (by decide)
    | refine s_norm hW hF hs (n := 4) (by assumption) (by decide)
    | refine s_norm hW hF hs (n := 3) ⟨by repeat' (first | exact Tab.nil | refine Tab.cons ?_ ?_ | exact one7 (by first | assumption | decide) (by first | decide | omega)), by simp⟩ (by decide)
    | refine s_pre hW (by decide) (by first | exact sm_by (by assumption) | exact sm_tm (by assumption) (by decide)) fun w hw => ?_
    | refine Yes.cond (fun _ => ?_) fun _ => ?_)
end
end Go.Proofs.YtcpidokhkcmdfaaGreat.B
