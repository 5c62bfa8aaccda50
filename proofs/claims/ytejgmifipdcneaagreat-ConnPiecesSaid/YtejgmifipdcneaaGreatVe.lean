/- The law ConnPieces, of plain data. Conditions: those of each theorem; Facts of closed calls. -/
import Derived.Test.YtejgmifipdcneaaGreatVc
import Derived.Test.YtejgmifipdcneaaGreatVd
namespace Go.Proofs.YtejgmifipdcneaaGreat.B
open Go Go.Proofs Go.Proofs.YtejgmifipdcneaaGreat.I
set_option linter.unusedVariables false
set_option linter.unusedSimpArgs false
set_option maxRecDepth 100000
theorem fed_kinds (s : List UInt8) : ((fed s).2.2 = 2 → ∃ a m, (fed s).1 = a ++ [m] ∧ m.k = 2) ∧ ((fed s).2.2 ≠ 2 → ∀ m ∈ (fed s).1, m.k ≠ 2) ∧ (fed s).2.2 ≤ 2 ∧ ((fed s).2.2 ≠ 0 → (fed s).2.1 = []) := by
  suffices H : ∀ (k : Nat) (s : List UInt8), s.length ≤ k → ((fed s).2.2 = 2 → ∃ a m, (fed s).1 = a ++ [m] ∧ m.k = 2) ∧ ((fed s).2.2 ≠ 2 → ∀ m ∈ (fed s).1, m.k ≠ 2) ∧ (fed s).2.2 ≤ 2 ∧ ((fed s).2.2 ≠ 0 → (fed s).2.1 = []) from H _ s (Nat.le_refl _)
  intro k
  induction k with
  | zero =>
    intro s h
    have : s = [] := List.length_eq_zero_iff.1 (by omega)
    subst this
    rw [show fed [] = ([], [], 0) by rw [fed_eq]; simp [pE_nil]]
    simp
  | succ k ih =>
    intro s h
    rw [fed_eq]
    by_cases c6 : pE s = 6
    · rw [if_pos c6]; simp
    rw [if_neg c6]
    by_cases c0 : pE s = 0
    · rw [if_pos c0]
      obtain ⟨h1, h2, _, _⟩ := parse_ok c0
      have hl : (s.drop (pLn s)).length = s.length - pLn s := List.length_drop
      obtain ⟨i1, i2, i3, i4⟩ := ih (s.drop (pLn s)) (by omega)
      cases ht : toldOf (s.take (pLn s)) with
      | none => simp
      | some m =>
        simp only []
        by_cases c9 : 9 < m.k
        · simp [c9]
        · by_cases c2 : m.k = 2
          · simp only [if_neg c9, if_pos c2]
            exact ⟨fun _ => ⟨[], m, rfl, c2⟩, fun h => absurd rfl h, by omega, fun _ => trivial⟩
          · simp only [c9, c2, if_false]
            refine ⟨fun h => ?_, fun h x hx => ?_, i3, i4⟩
            · obtain ⟨a, x, e, hx⟩ := i1 h
              exact ⟨m :: a, x, by rw [e]; rfl, hx⟩
            · rcases List.mem_cons.1 hx with rfl | hx
              · exact c2
              · exact i2 h x hx
    · rw [if_neg c0]; simp
/-- Where a line stands behind so many bytes: what has come, what is left of it, what is to come. -/
def Line (B : List UInt8) (got : List Mg) (r cr : List UInt8) (over ended : Bool) : Prop :=
  (over = false ∧ ended = false ∧ fed cr = ([], cr, 0) ∧ cr.length + r.length ≤ B.length ∧ (∀ m ∈ got, m.k ≠ 2) ∧ fed B = (got ++ (fed (cr ++ r)).1, (fed (cr ++ r)).2)) ∨
  (over = true ∧ ended = false ∧ cr = [] ∧ (∀ m ∈ got, m.k ≠ 2) ∧ fed B = (got, [], 1)) ∨
  (over = false ∧ ended = true ∧ cr = [] ∧ (∃ a m, got = a ++ [m] ∧ m.k = 2) ∧ fed B = (got, [], 2))
theorem Line.len {B : List UInt8} {got : List Mg} {r cr : List UInt8} {over ended : Bool} (h : Line B got r cr over ended) : got.length ≤ B.length ∧ cr.length ≤ B.length ∧ (over = false → ended = false → cr.length + r.length ≤ B.length) := by
  have hl := fed_len B
  rcases h with ⟨_, _, _, h1, _, e⟩ | ⟨e1, _, e0, _, e⟩ | ⟨_, e1, e0, _, e⟩
  · rw [e] at hl
    simp only [List.length_append] at hl
    exact ⟨by omega, by omega, fun _ _ => h1⟩
  · rw [e] at hl; subst e0; exact ⟨hl.1, by simp, fun h => by rw [e1] at h; cases h⟩
  · rw [e] at hl; subst e0; exact ⟨hl.1, by simp, fun _ h => by rw [e1] at h; cases h⟩
theorem Line.step {B : List UInt8} {got : List Mg} {p r cr : List UInt8} (h : Line B got (p ++ r) cr false false) : Line B (got ++ (fed (cr ++ p)).1) r (fed (cr ++ p)).2.1 (decide ((fed (cr ++ p)).2.2 = 1)) (decide ((fed (cr ++ p)).2.2 = 2)) := by
  obtain ⟨k1, k2, k3, k4⟩ := fed_kinds (cr ++ p)
  rcases h with ⟨_, _, h0, h1, h2, e⟩ | ⟨h, _⟩ | ⟨_, h, _⟩
  · have ha := fed_app (cr ++ p) r
    rw [List.append_assoc] at ha
    have hl := (fed_len (cr ++ p)).2
    rw [List.length_append] at hl h1
    rcases (show (fed (cr ++ p)).2.2 = 0 ∨ (fed (cr ++ p)).2.2 = 1 ∨ (fed (cr ++ p)).2.2 = 2 by omega) with c | c | c
    · left
      rw [if_pos c] at ha
      refine ⟨by rw [c]; rfl, by rw [c]; rfl, ?_, by omega, ?_, ?_⟩
      · have h6 := fed_rest (cr ++ p) c
        rw [fed_eq, if_pos h6]
      · intro m hm
        rcases List.mem_append.1 hm with hm | hm
        · exact h2 m hm
        · exact k2 (by omega) m hm
      · rw [e, ha]
        simp only [List.append_assoc]
    · right; left
      rw [if_neg (by omega)] at ha
      refine ⟨by rw [c]; rfl, by rw [c]; rfl, k4 (by omega), ?_, ?_⟩
      · intro m hm
        rcases List.mem_append.1 hm with hm | hm
        · exact h2 m hm
        · exact k2 (by omega) m hm
      · rw [e, ha]
        have := k4 (by omega)
        rw [show (fed (cr ++ p)).2 = ([], 1) from Prod.ext this c]
    · right; right
      rw [if_neg (by omega)] at ha
      refine ⟨by rw [c]; rfl, by rw [c]; rfl, k4 (by omega), ?_, ?_⟩
      · obtain ⟨a, m, h3, h4⟩ := k1 c
        exact ⟨got ++ a, m, by rw [h3, List.append_assoc], h4⟩
      · rw [e, ha]
        have := k4 (by omega)
        rw [show (fed (cr ++ p)).2 = ([], 2) from Prod.ext this c]
  · cases h
  · cases h
/-- Is the last one that lets go? -/
def endB (G : List Mg) : Bool := match G.getLast? with
  | some m => decide (m.k = 2)
  | none => false
theorem Line.ends {B : List UInt8} {got : List Mg} {r cr : List UInt8} {over ended : Bool} (h : Line B got r cr over ended) : endB got = ended := by
  unfold endB
  rcases h with ⟨_, h0, _, _, h2, _⟩ | ⟨_, h0, _, h2, _⟩ | ⟨_, h0, _, ⟨a, m, h1, h2⟩, _⟩
  · rw [h0]
    cases hg : got.getLast? with
    | none => rfl
    | some m => exact decide_eq_false (h2 m (List.mem_of_getLast? hg))
  · rw [h0]
    cases hg : got.getLast? with
    | none => rfl
    | some m => exact decide_eq_false (h2 m (List.mem_of_getLast? hg))
  · rw [h0, h1, List.getLast?_concat]
    exact decide_eq_true h2
theorem end_eq (G : List Mg) (hG : G.length ≤ 1073741824) : (bif decide (0 < ((dGs G).length : Int)) then (at_ (dGs G) (IntKind.wrap .i64 (((dGs G).length : Int) - 1))).bind fun j => ((dGs G)[j]?).bind fun e => (decs [.int .i64] (sub e 1 1)).bind fun t => some (decide (t.1 = 2)) else some false) = some (endB G) := by
  rw [dGs_len]
  by_cases h : 0 < (G.length : Int)
  · rw [decide_eq_true h, cond_true, w64 (by omega) (by omega)]
    have hlt : G.length - 1 < G.length := by omega
    have ha : at_ (dGs G) ((G.length : Int) - 1) = some (G.length - 1) := by
      unfold at_
      rw [if_pos (by rw [dGs_len]; omega)]
      congr 1; omega
    have hg : (dGs G)[G.length - 1]? = some (dMg G[G.length - 1]) := by simp [dGs, hlt]
    have hd : decs [.int .i64] (sub (dMg G[G.length - 1]) 1 1) = some (G[G.length - 1].k, ()) := rfl
    simp only [ha, hg, hd, Option.bind_some]
    unfold endB
    rw [List.getLast?_eq_getElem?, List.getElem?_eq_getElem hlt]
  · rw [decide_eq_false h]
    have : G = [] := List.length_eq_zero_iff.1 (by omega)
    subst this
    rfl
section
variable {call : Oracle} {lp : Loops} (hW : Fix Tryz.prog hs call lp)
include hW
theorem pieces_end (hA : brooklaw20_awake.f call = some (true, ())) {B : List UInt8} (hB : B.length ≤ 200000000) {got : List Mg} {r cr : List UInt8} {over ended : Bool} (h : Line B got r cr over ended) (hr : r = [] ∨ ended = true) :
    ((brookref19_SameMsgs.f call (dGs got) (dGs (fed B).1)).bind fun t20 => (bif t20.1 then some (decide (([] : List UInt8) = []) && (decide (cr = (fed B).2.1) && ((over == decide ((fed B).2.2 = 1)) && true))) else some false).bind fun z21 => (bif z21 then (brooklaw20_awake.f call).bind fun t23 => some t23.1 else some false).bind fun z22 => some (z22, ())) = some (true, ()) := by
  obtain ⟨l1, l2, _⟩ := h.len
  have key : got = (fed B).1 ∧ cr = (fed B).2.1 ∧ over = decide ((fed B).2.2 = 1) := by
    rcases h with ⟨h0, h1, h2, _, _, e⟩ | ⟨h0, h1, h2, _, e⟩ | ⟨h0, h1, h2, _, e⟩
    · rcases hr with rfl | hr
      · rw [List.append_nil, h2] at e
        rw [e, h0]; simp
      · rw [h1] at hr; cases hr
    · rw [e, h0, h2]; simp
    · rw [e, h0, h2]; simp
  obtain ⟨k1, k2, k3⟩ := key
  rw [sameMsgs_eq hW got (fed B).1 (by omega) (by rw [k1]; exact fed_sz B), ← k1, ← k2, ← k3]
  simp only [Option.bind_some, eqB_self, cond_true, decide_true, BEq.rfl, Bool.and_true, hA]
theorem pieces_loop (hA : brooklaw20_awake.f call = some (true, ())) (l : List Int) (hl : bytesI l) (hl2 : l.length ≤ 60) {B : List UInt8} (hB : B.length ≤ 200000000) : ∀ (m : Nat) (x17 : Int) (r cr : List UInt8) (got : List Mg) (over ended : Bool), 0 ≤ x17 → x17 ≤ 100 → (x17 ≤ l.length → l.length - x17.toNat + 1 < m) → (l.length < x17 → r = [] ∧ 0 < m) → Line B got r cr over ended →
    brooklaw20_ConnPieces.l9 call lp (rowI l) r (dGs (fed B).1) ended x17 ([], (fed B).2.1, decide ((fed B).2.2 = 1), ()) ([], cr, over, ()) (dGs got) = some (true, ()) := by
  intro m
  induction m with
  | zero =>
    intro x17 r cr got over ended h0 h1 hm hm2 h
    by_cases hx : x17 ≤ l.length
    · exact absurd (hm hx) (by omega)
    · exact absurd (hm2 (by omega)).2 (by omega)
  | succ m ih =>
    intro x17 r cr got over ended h0 h1 hm hm2 h
    rw [brooklaw20_ConnPieces.l9.eq hW]
    by_cases hr : r = []
    · subst hr
      have := pieces_end hW hA hB h (.inl rfl)
      exact this
    have hrl : 0 < (r.length : Int) := by
      have : r.length ≠ 0 := fun e => hr (List.length_eq_zero_iff.1 e)
      omega
    rw [decide_eq_true hrl]
    cases ended with
    | true => exact pieces_end hW hA hB h (.inr rfl)
    | false =>
    simp only [cond_true, Bool.not_false, Option.bind_some]
    have hx : x17 ≤ l.length := by
      by_cases hx : x17 ≤ l.length
      · exact hx
      · exact absurd (hm2 (by omega)).1 hr
    have hm := hm hx
    -- a piece
    have piece : ∀ n : Nat, n ≤ r.length → (x17 = l.length → n = r.length) → ∀ {β : Type} (F : List UInt8 → List (List D) → Option β), True →
        (conn_Feed.f call ([], cr, over, ()) (r.take n)).bind (fun t5 => (app 23 344 (dGs got) t5.1.2.1).bind fun t6 => (bif decide (0 < (t6.length : Int)) then (at_ t6 (IntKind.wrap .i64 ((t6.length : Int) - 1))).bind fun j9 => (t6[j9]?).bind fun e10 => (decs [.int .i64] (sub e10 1 1)).bind fun t11 => some (decide (t11.1 = 2)) else some false).bind fun z8 => brooklaw20_ConnPieces.l9 call lp (rowI l) (r.drop n) (dGs (fed B).1) z8 (IntKind.wrap .i64 (x17 + 1)) ([], (fed B).2.1, decide ((fed B).2.2 = 1), ()) t5.1.1 t6) = some (true, ()) := by
      intro n hn hlast β F _
      have hsplit : r = r.take n ++ r.drop n := (List.take_append_drop n r).symm
      obtain ⟨l1, l2, l3⟩ := h.len
      rw [w64 (x := x17 + 1) (by omega) (by omega)]
      cases over with
      | true =>
        rw [Feed_over hW]
        simp only [Option.bind_some]
        rw [app_eq (by rw [dGs_len]; simp; omega) (by simp)]
        simp only [Option.bind_some, List.append_nil]
        rw [end_eq got (by omega), h.ends]
        simp only [Option.bind_some]
        refine ih (x17 + 1) (r.drop n) cr got true false (by omega) (by omega) (fun hx2 => by omega) (fun hx2 => ⟨?_, by omega⟩) ?_
        · rw [hlast (by omega), List.drop_length]
        · rcases h with ⟨h, _⟩ | h | ⟨_, h, _⟩
          · cases h
          · exact .inr (.inl h)
          · cases h
      | false =>
        have l3 := l3 rfl rfl
        have htk : (r.take n).length ≤ r.length := by rw [List.length_take]; omega
        rw [Feed_eq hW [] cr (r.take n) (by omega)]
        have hs := Line.step (p := r.take n) (r := r.drop n) (by rw [← hsplit]; exact h)
        have hsl := hs.len.1
        simp only [Option.bind_some]
        rw [app_eq (by rw [← List.length_append, ← dGs_app, dGs_len]; omega) (dGs_sz _), ← dGs_app]
        simp only [Option.bind_some]
        rw [end_eq _ (by omega), hs.ends]
        simp only [Option.bind_some]
        refine ih (x17 + 1) (r.drop n) _ _ _ _ (by omega) (by omega) (fun hx2 => by omega) (fun hx2 => ⟨?_, by omega⟩) hs
        rw [hlast (by omega), List.drop_length]
    by_cases hc : x17 < (l.length : Int)
    · rw [rowI_len, decide_eq_true hc, cond_true]
      have hlt : x17.toNat < l.length := by omega
      have hix : ix 1 (rowI l) x17 = some [D.int .u8 l[x17.toNat]] := by
        rw [ix_eq h0 (by rw [rowI_len]; exact hc) (rowI_sz l)]
        simp [rowI]
      have hd : decs [.int .u8] (sub [D.int .u8 l[x17.toNat]] 0 1) = some (l[x17.toNat], ()) := rfl
      have hby := hl _ (List.getElem_mem hlt)
      simp only [hix, hd, Option.bind_some]
      rw [w64 (x := l[x17.toNat]) (by omega) (by omega)]
      have hmn : 0 ≤ mnv (r.length : Int) l[x17.toNat] ∧ mnv (r.length : Int) l[x17.toNat] ≤ r.length := by unfold mnv; split <;> omega
      generalize mnv (r.length : Int) l[x17.toNat] = n at hmn
      obtain ⟨n, rfl⟩ : ∃ k : Nat, n = k := ⟨n.toNat, by omega⟩
      rw [subs_eq r (l := 0) (h := (n : Int)) (by omega) hmn.1 hmn.2, subs_all r hmn.1 hmn.2]
      rw [Int.toNat_zero, List.drop_zero, show ((n : Int) - 0).toNat = n by omega, show ((n : Int)).toNat = n by omega]
      exact piece n (by omega) (by omega) (β := Unit) (fun _ _ => none) trivial
    · rw [rowI_len, decide_eq_false hc, cond_false]
      rw [subs_eq r (l := 0) (h := (r.length : Int)) (by omega) (by omega) (by omega), subs_all r (l := (r.length : Int)) (by omega) (by omega)]
      rw [Int.toNat_zero, List.drop_zero, show ((r.length : Int) - 0).toNat = r.length by omega, show ((r.length : Int)).toNat = r.length by omega]
      exact piece r.length (by omega) (by omega) (β := Unit) (fun _ _ => none) trivial
theorem ConnPieces_row (hA : brooklaw20_awake.f call = some (true, ())) (hF : Facts call) (l : List Int) (hl : bytesI l) (f : List Int) (hf : bytesI f) (s : List UInt8) (c : List Int) (hc : bytesI c) (bad : List UInt8) : brooklaw20_ConnPieces.f call (rowI l) (rowI f) s (rowI c) bad = some (true, ()) := by
  rw [brooklaw20_ConnPieces.eq hW]
  simp only [rowI_len]
  by_cases h1 : (8 : Int) < (f.length : Int)
  · simp only [decide_eq_true h1, cond_true, Option.bind_some, hA]
  simp only [decide_eq_false h1, cond_false, Option.bind_some]
  by_cases h2 : (30 : Int) < (s.length : Int)
  · simp only [decide_eq_true h2, cond_true, Option.bind_some, hA]
  simp only [decide_eq_false h2, cond_false, Option.bind_some]
  by_cases h3 : (60 : Int) < (c.length : Int)
  · simp only [decide_eq_true h3, cond_true, Option.bind_some, hA]
  simp only [decide_eq_false h3, cond_false, Option.bind_some]
  by_cases h4 : (30 : Int) < (bad.length : Int)
  · simp only [decide_eq_true h4, cond_true, Option.bind_some, hA]
  simp only [decide_eq_false h4, cond_false, Option.bind_some]
  obtain ⟨⟨b, _⟩, e, hb⟩ := Bytes_yes hW hF l f s hl hf (by omega) (by omega)
  rw [e]
  simp only [Option.bind_some] at hb ⊢
  rw [cat_eq (by omega)]
  simp only [Option.bind_some]
  have hB : (b ++ bad).length ≤ 200000000 := by rw [List.length_append]; omega
  rw [Feed_eq hW [] [] (b ++ bad) (by simp; rw [List.length_append] at hB; omega), List.nil_append]
  simp only [Option.bind_some]
  refine pieces_loop hW hA c hc (by omega) hB (c.length + 2) 0 (b ++ bad) [] [] false false (by omega) (by omega) (fun _ => by omega) (fun h => absurd h (by omega)) (.inl ⟨rfl, rfl, ?_, by simp, by simp, by simp⟩)
  rw [fed_eq]; simp [pE_nil]
end
end Go.Proofs.YtejgmifipdcneaaGreat.B
