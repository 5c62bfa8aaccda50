/- Searches and changes by numbers: they come, and are not great. Conditions: those of each theorem. -/
import Derived.Test.YtcpidokhkcmdfaaGreatMb
namespace Go.Proofs.YtcpidokhkcmdfaaGreat.B
open Go Go.Proofs Go.Proofs.YtcpidokhkcmdfaaGreat.I
set_option linter.unusedVariables false
set_option linter.unusedSimpArgs false
set_option maxRecDepth 100000
theorem sS_app (a : List (List UInt8)) (s : List UInt8) : sS (a ++ [s]) = sS a + 1 + s.length := by
  induction a with
  | nil => simp [sS]
  | cons x r ih => simp only [List.cons_append, sS, ih]; omega
theorem sMs_app (a : List Mdf) (m : Mdf) : sMs (a ++ [m]) = sMs a + (1 + m.t.length + sS m.vs) := by
  induction a with
  | nil => simp [sMs]
  | cons x r ih => simp only [List.cons_append, sMs, ih]; omega
section
variable {call : Oracle} {lp : Loops} (hW : Fix Tryz.prog hs call lp)
include hW
theorem Names_yes : Yes (brooklaw8_Names.f call) fun r => Tab (pS 30) r.1 ∧ r.1.length = 12 := by
  rw [brooklaw8_Names.eq hW]
  refine .some ⟨?_, rfl⟩
  repeat' (first | exact Tab.nil | (apply Tab.cons; exact .mk (by simp)))
theorem Ask_loop (l f : List Int) (s : List UInt8) (hl : bytesI l) (hf : bytesI f) (hf2 : f.length ≤ 10) (hs : s.length ≤ 60) (y : MgT) : ∀ (m : Nat) (x8 : Int) (k : List (List D)), 0 ≤ x8 → x8 ≤ 4 → (4 - x8).toNat ≤ m → KOk 4 k → Yes (brooklaw11_Ask.l3 call lp (rowI l) (rowI f) s x8 y k) fun r => ∃ g : Mg, r = (tupM g, ()) ∧ sG g ≤ 8200 := by
  intro m
  induction m with
  | zero =>
    intro x8 k h0 h1 hm hk
    rw [brooklaw11_Ask.l3.eq hW, rowI_len]
    refine Yes.bind (P := fun z => z = false) (.cond (fun hc => absurd (of_decide_eq_true hc) (by omega)) fun _ => .some rfl) fun z hz => ?_
    subst hz
    rw [cond_false]
    refine Yes.bind (Names_yes hW) fun t6 ⟨ht6, hl6⟩ => ?_
    refine yes_read hk ⟨by decide, by decide⟩ fun t9 ht9 => ?_
    refine yes_ix ht6 pS.sz (by rw [hl6]; exact tmr ht9.1 (by decide)) fun e he => yes_str he fun t11 ht11 => ?_
    refine yes_read hk ⟨by decide, by decide⟩ fun t14 ht14 => ?_
    refine yes_read hk ⟨by decide, by decide⟩ fun t17 ht17 => ?_
    refine yes_row (p := pI) ?_ ?_ fun e he => yes_int he fun t20 ht20 => ?_
    · repeat' (first | exact Tab.nil | (apply Tab.cons; exact .mk ⟨by decide, by decide⟩))
    · exact tmr (w64r (tdr ht17 (by decide))).1 (by decide)
    refine Yes.bind (mk6 hW s hs 10 f hf2 (by omega) hf) fun r ⟨g, hr, hg⟩ => ?_
    subst hr
    have hg := Nat.le_trans hg (VV_lo f.length (by omega)).2
    have types : Tab (pL 20) [[D.list []], [D.list []], [D.list [[D.str [67, 78]]]], [D.list [[D.str [115, 110]], [D.str [100, 101, 115, 99, 114, 105, 112, 116, 105, 111, 110]]]], [D.list [[D.str [42]]]], [D.list [[D.str [110, 111, 110, 101]]]]] :=
      .cons (.mk [] (by simp [sS])) (.cons (.mk [] (by simp [sS])) (.cons (.mk [[67, 78]] (by simp [sS])) (.cons (.mk [[115, 110], [100, 101, 115, 99, 114, 105, 112, 116, 105, 111, 110]] (by simp [sS])) (.cons (.mk [[42]] (by simp [sS])) (.cons (.mk [[110, 111, 110, 101]] (by simp [sS])) .nil)))))
    refine yes_read hk ⟨by decide, by decide⟩ fun t24 ht24 => ?_
    refine .cond (fun _ => ?_) fun _ => ?_
    · refine yes_read hk ⟨by decide, by decide⟩ fun t27 ht27 => ?_
      refine yes_row types (tmr ht27.1 (by decide)) fun e he => yes_list he fun ps hps => ?_
      exact .some ⟨⟨0, 0, [], [], Int.tmod t14 3, t20, g, ps, [], [], [], [], false, [], 0, 0, 0, [], []⟩, rfl, by simp only [sG, sS, sMs, sAs, List.length_nil]; omega⟩
    · refine yes_read hk ⟨by decide, by decide⟩ fun t27 ht27 => ?_
      refine yes_row types (tmr ht27.1 (by decide)) fun e he => yes_list he fun ps hps => ?_
      exact .some ⟨⟨0, 0, t11, [], Int.tmod t14 3, t20, g, ps, [], [], [], [], false, [], 0, 0, 0, [], []⟩, rfl, by simp only [sG, sS, sMs, sAs, List.length_nil]; omega⟩
  | succ m ih =>
    intro x8 k h0 h1 hm hk
    by_cases hc : x8 < 4 ∧ x8 < l.length
    · rw [brooklaw11_Ask.l3.eq hW, rowI_len]
      simp only [decide_eq_true hc.1, decide_eq_true hc.2, cond_true, Option.bind_some]
      refine yes_byte hl ⟨h0, hc.2⟩ fun v hv => ?_
      refine yes_keep hk ⟨h0, hc.1⟩ (w64r hv) fun k' hk' => ?_
      rw [w64 (x := x8 + 1) (by omega) (by omega)]
      exact ih (x8 + 1) k' (by omega) (by omega) (by omega) hk'
    · have hz : (bif decide (x8 < 4) then some (decide (x8 < ((rowI l).length : Int))) else some false) = (bif decide ((4 : Int) < 4) then some (decide ((4 : Int) < ((rowI l).length : Int))) else some false) := by
        rw [rowI_len]
        by_cases h4 : x8 < 4
        · rw [decide_eq_true h4, decide_eq_false (show ¬ x8 < (l.length : Int) from fun h => hc ⟨h4, h⟩)]; rfl
        · rw [decide_eq_false h4]; rfl
      have := ih 4 k (by omega) (by omega) (by omega) hk
      rw [brooklaw11_Ask.l3.eq hW] at this ⊢
      rw [hz]
      simp only [show decide ((4 : Int) < 4) = false from rfl, cond_false, Option.bind_some] at this ⊢
      exact this
theorem Ask_yes (l f : List Int) (s : List UInt8) (hl : bytesI l) (hf : bytesI f) (hf2 : f.length ≤ 10) (hs : s.length ≤ 60) : Yes (brooklaw11_Ask.f call (rowI l) (rowI f) s) fun r => ∃ g : Mg, r = (tupM g, ()) ∧ sG g ≤ 8200 := by
  rw [brooklaw11_Ask.eq hW]
  exact Ask_loop hW l f s hl hf hf2 hs _ 4 0 _ (by omega) (by omega) (by omega) (KOk.zero 4)
theorem Mods_in (l : List Int) (hl2 : l.length ≤ 10) (K : Int) (typ : List UInt8) (ht : typ.length ≤ 20) (acc : List Mdf) (hacc : acc.length ≤ 4) (x4 x5 x6 x7 : Int) (h5 : By x5) (h6 : By x6) (h7 : By x7) {Q : List (List D) × Unit → Prop} (k : ∀ K' : Int, (K' = 4 ∨ K' = K) → ∀ vs, sS vs ≤ 100 → Yes (brooklaw9_Mods.l3 call lp (rowI l) (IntKind.wrap .i64 (x4 + 3)) (dMs (acc ++ [⟨K', typ, vs⟩]))) Q) : ∀ (m : Nat) (x9 : Int) (vs : List (List UInt8)), 0 ≤ x9 → x9 ≤ 2 → (2 - x9).toNat ≤ m → (vs.length : Int) = x9 → sS vs ≤ vs.length * 40 → Yes (brooklaw9_Mods.l8 call lp (rowI l) x4 x5 x6 x7 x9 (K, typ, ()) (dSs vs) (dMs acc)) Q := by
  intro m
  have ht6 := tmr h6.1 (c := 3) (by decide)
  have fin : ∀ vs : List (List UInt8), sS vs ≤ 100 → Yes (bif decide (250 < x5) then (app 3 48 (dMs acc) [[D.int .i64 4, D.str typ, D.list (dSs vs)]]).bind fun t15 => brooklaw9_Mods.l3 call lp (rowI l) (IntKind.wrap .i64 (x4 + 3)) t15 else (app 3 48 (dMs acc) [[D.int .i64 K, D.str typ, D.list (dSs vs)]]).bind fun t16 => brooklaw9_Mods.l3 call lp (rowI l) (IntKind.wrap .i64 (x4 + 3)) t16) Q := by
    intro vs hvs
    refine .cond (fun _ => ?_) fun _ => ?_
    · have := app_mod acc ⟨4, typ, vs⟩ (by omega)
      simp only [] at this
      rw [this]
      exact k 4 (.inl rfl) vs hvs
    · have := app_mod acc ⟨K, typ, vs⟩ (by omega)
      simp only [] at this
      rw [this]
      exact k K (.inr rfl) vs hvs
  induction m with
  | zero =>
    intro x9 vs h0 h1 hm hv hs
    rw [brooklaw9_Mods.l8.eq hW, decide_eq_false (by omega), cond_false]
    exact fin vs (by have : vs.length = 2 := by omega
                     rw [this] at hs; omega)
  | succ m ih =>
    intro x9 vs h0 h1 hm hv hs
    rw [brooklaw9_Mods.l8.eq hW]
    have hvl : vs.length ≤ 2 := by omega
    have hvs : sS vs ≤ 100 := by
      have := Nat.mul_le_mul_right 40 hvl
      omega
    refine .cond (fun hc => ?_) fun _ => fin vs hvs
    have hc := of_decide_eq_true hc
    have r4 := tmr h7.1 (c := 4) (by decide)
    have r6 := tmr h7.1 (c := 6) (by decide)
    have h70 := h7.1; have h71 := h7.2
    refine pre_yes hW (by decide) x7 (by omega) (by omega) fun t2 ht2 => ?_
    refine pre_yes hW (by decide) (Int.tmod x7 4) (by omega) (by omega) fun t4 ht4 => ?_
    refine pre_yes hW (by decide) (Int.tmod x7 6) (by omega) (by omega) fun t6 ht6 => ?_
    refine Yes.bind (Digits_yes hW x7 (by omega) (by omega)) fun t7 ht7 => ?_
    refine pre_yes hW (by decide) x7 (by omega) (by omega) fun t9 ht9 => ?_
    refine Yes.bind (yes_cat (by omega) (by simp)) fun t10 ht10 => ?_
    simp only [List.length_cons, List.length_nil] at ht10
    have hd := w64r (tdr h6 (c := 3) (by decide))
    have hi : 0 ≤ IntKind.wrap .i64 (IntKind.wrap .i64 (Int.tdiv x6 3) + x9) := by
      have := hd.1; have := hd.2
      rw [w64 (x := IntKind.wrap .i64 (Int.tdiv x6 3) + x9) (by omega) (by omega)]; omega
    refine yes_row (p := pS 35) ?_ (tmr (c := 7) hi (by decide)) fun e he => yes_str he fun t13 ht13 => ?_
    · exact .cons (.mk (by omega)) (.cons (.mk (by omega)) (.cons (.mk (by omega)) (.cons (.mk (by simp)) (.cons (.mk (by simp)) (.cons (.mk (by omega)) (.cons (.mk (by omega)) .nil))))))
    rw [app_str vs t13 (by omega)]
    rw [w64 (x := x9 + 1) (by omega) (by omega)]
    refine ih (x9 + 1) (vs ++ [t13]) (by omega) (by omega) (by omega) (by rw [List.length_append]; simp; omega) ?_
    rw [sS_app, List.length_append, List.length_singleton, Nat.add_mul]
    omega
theorem Mods_loop (l : List Int) (hl : bytesI l) (hl2 : l.length ≤ 10) : ∀ (m : Nat) (x4 : Int) (acc : List Mdf), 0 ≤ x4 → x4 ≤ 100 → 5 - acc.length ≤ m → acc.length ≤ 5 → sMs acc ≤ acc.length * 200 → (∀ x ∈ acc, 1 ≤ x.k) → Yes (brooklaw9_Mods.l3 call lp (rowI l) x4 (dMs acc)) fun r => ∃ ms : List Mdf, r = (dMs ms, ()) ∧ ms.length ≤ 5 ∧ sMs ms ≤ 1000 ∧ ∀ x ∈ ms, 1 ≤ x.k := by
  intro m
  induction m with
  | zero =>
    intro x4 acc h0 h1 hm ha hs hk
    have hal : acc.length = 5 := by omega
    rw [brooklaw9_Mods.l3.eq hW, dMs_len]
    refine Yes.bind (P := fun z => z = false) (.cond (fun _ => .some (decide_eq_false (by omega))) fun _ => .some rfl) fun z hz => ?_
    subst hz
    exact .some ⟨acc, rfl, ha, by rw [hal] at hs; omega, hk⟩
  | succ m ih =>
    intro x4 acc h0 h1 hm ha hs hk
    have hs5 : sMs acc ≤ 1000 := by
      have := Nat.mul_le_mul_right 200 ha
      omega
    rw [brooklaw9_Mods.l3.eq hW, dMs_len, rowI_len, w64 (x := x4 + 2) (by omega) (by omega)]
    refine Yes.bind (P := fun z => z = true → x4 + 2 < l.length ∧ acc.length < 5) (.cond (fun hc => .some fun hz => ⟨of_decide_eq_true hc, by have := of_decide_eq_true hz; omega⟩) fun _ => .some fun h => by cases h) fun z hz => ?_
    refine .cond (fun hc => ?_) fun _ => .some ⟨acc, rfl, ha, hs5, hk⟩
    obtain ⟨g1, g2⟩ := hz hc
    refine yes_byte hl ⟨by omega, by omega⟩ fun t3 ht3 => ?_
    rw [w64 (x := x4 + 1) (by omega) (by omega)]
    refine yes_byte hl ⟨by omega, by omega⟩ fun t5 ht5 => ?_
    refine yes_byte hl ⟨by omega, by omega⟩ fun t7 ht7 => ?_
    refine yes_row (p := pS 20) ?_ (tmr (c := 9) (w64r (tdr (c := 3) (w64r ht3) (by decide))).1 (by decide)) fun e he => yes_str he fun t10 ht10 => ?_
    · repeat' (first | exact Tab.nil | (apply Tab.cons; exact .mk (by simp)))
    refine Mods_in hW l hl2 _ t10 ht10 acc (by omega) x4 _ _ _ (w64r ht3) (w64r ht5) (w64r ht7) (fun K' hK' vs hvs => ?_) 2 0 [] (by omega) (by omega) (by omega) (by simp) (by simp [sS])
    rw [w64 (x := x4 + 3) (by omega) (by omega)]
    have q0 : (acc ++ [(⟨K', t10, vs⟩ : Mdf)]).length = acc.length + 1 := by rw [List.length_append]; rfl
    have q1 : sMs (acc ++ [(⟨K', t10, vs⟩ : Mdf)]) ≤ (acc.length + 1) * 200 := by
      rw [sMs_app, Nat.add_mul]
      show _ + (1 + t10.length + sS vs) ≤ _
      clear ih hz
      omega
    have q2 : 0 ≤ x4 + 3 := by clear ih hz; omega
    have q3 : x4 + 3 ≤ 100 := by clear ih hz; omega
    have q4 : 5 - (acc.length + 1) ≤ m := by clear ih hz; omega
    have q5 : acc.length + 1 ≤ 5 := by clear ih hz; omega
    rw [← q0] at q1 q4 q5
    have q6 : ∀ x ∈ acc ++ [(⟨K', t10, vs⟩ : Mdf)], 1 ≤ x.k := by
      intro x hx
      rcases List.mem_append.1 hx with hx | hx
      · exact hk x hx
      · rw [List.mem_singleton.1 hx]
        show 1 ≤ K'
        rcases hK' with h | h
        · omega
        · have h3 := tmr (c := 3) (w64r ht3).1 (by decide)
          have h : K' = IntKind.wrap .i64 (1 + Int.tmod (IntKind.wrap .i64 t3) 3) := h
          rw [h, w64 (by clear ih; omega) (by clear ih; omega)]
          clear ih; omega
    have hfin := ih (x4 + 3) (acc ++ [⟨K', t10, vs⟩]) q2 q3 q4 q5 q1 q6
    with_reducible exact hfin
theorem Mods_yes (l : List Int) (hl : bytesI l) (hl2 : l.length ≤ 10) : Yes (brooklaw9_Mods.f call (rowI l)) fun r => ∃ ms : List Mdf, r = (dMs ms, ()) ∧ ms.length ≤ 5 ∧ sMs ms ≤ 1000 ∧ ∀ x ∈ ms, 1 ≤ x.k := by
  rw [brooklaw9_Mods.eq hW]
  exact Mods_loop hW l hl hl2 5 0 [] (by omega) (by omega) (by simp) (by simp) (by simp [sMs]) (by simp)
end
end Go.Proofs.YtcpidokhkcmdfaaGreat.B
