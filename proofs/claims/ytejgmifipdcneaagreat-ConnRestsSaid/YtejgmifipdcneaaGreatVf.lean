/- The law ConnRests, of plain data. Conditions: those of each theorem; Facts of closed calls. -/
import Derived.Test.YtejgmifipdcneaaGreatVc
import Derived.Test.YtejgmifipdcneaaGreatVd
namespace Go.Proofs.YtejgmifipdcneaaGreat.B
open Go Go.Proofs Go.Proofs.YtejgmifipdcneaaGreat.I
set_option linter.unusedVariables false
set_option linter.unusedSimpArgs false
set_option maxRecDepth 100000
/-- A message's bytes, cut, wait. -/
theorem told_wait {s : List UInt8} {m : Mg} (h : Told s m) (k : Nat) (hk : k < s.length) : fed (s.take k) = ([], s.take k, 0) := by
  have hp := parse_cut (told_fit h) 12 k (by rw [← told_bytes h, by_len]; exact hk)
  rw [← told_bytes h, ← by_take] at hp
  rw [fed_eq, if_pos (by unfold pE; rw [hp])]
/-- A message's bytes, whole, tell it. -/
theorem told_fed {s : List UInt8} {m : Mg} (h : Told s m) (hk : m.k ≤ 9) : (fed s).1 = [m] ∧ (fed s).2.1 = [] ∧ (fed s).2.2 ≠ 1 := by
  have hp := told_parse h []
  rw [List.append_nil] at hp
  have e0 : pE s = 0 := by unfold pE; rw [hp]
  have en : pLn s = s.length := by unfold pLn; rw [hp]; simp
  rw [fed_eq, if_neg (by omega), if_pos e0, en, List.take_length, List.drop_length, toldOf_yes h]
  simp only []
  rw [if_neg (by omega)]
  by_cases c2 : m.k = 2
  · rw [if_pos c2]; simp
  · rw [if_neg c2, show fed [] = ([], [], 0) by rw [fed_eq]; simp [pE_nil]]
    simp
section
variable {call : Oracle} {lp : Loops} (hW : Fix Tryz.prog hs call lp)
include hW
/-- Of six numbers: nothing, or a message that asks. -/
theorem Bytes_six (hF : Facts call) (l f : List Int) (s : List UInt8) (hl : bytesI l) (h6 : l.length = 6) (hf : bytesI f) (hf2 : f.length ≤ 10) (hs : s.length ≤ 60) : Yes (brooklaw20_Bytes.f call (rowI l) (rowI f) s) fun r => r.1 = [] ∨ ∃ m, Told r.1 m ∧ m.k ≤ 9 := by
  rw [brooklaw20_Bytes.eq hW, brooklaw20_Bytes.l3.eq hW, rowI_len, h6]
  simp only [show IntKind.wrap .i64 ((0 : Int) + 5) = 5 from rfl, show IntKind.wrap .i64 ((0 : Int) + 6) = 6 from rfl, show IntKind.wrap .i64 ((0 : Int) + 3) = 3 from rfl, show decide ((5 : Int) < ((6 : Nat) : Int)) = true from rfl, show decide ((0 : Int) < 60) = true from rfl, cond_true, Option.bind_some]
  refine Yes.bind (yes_subz hl (a := 0) (b := 6) (by omega) (by omega) (by omega)) fun t2 ⟨l', hr, hl', _⟩ => ?_
  subst hr
  refine Yes.bind (Make_yes hW hF l' f s hl' hf hf2 hs) fun t3 ⟨g, hr, hg, _, _⟩ => ?_
  subst hr
  have stop : ∀ (t : List UInt8) , (t = [] ∨ ∃ m, Told t m ∧ m.k ≤ 9) → t.length ≤ 1048581 → Yes ((cat [] t).bind fun t13 => brooklaw20_Bytes.l3 call lp (rowI l) (rowI f) s t13 6) fun r => r.1 = [] ∨ ∃ m, Told r.1 m ∧ m.k ≤ 9 := by
    intro t ht htl
    rw [cat_eq (by simp; omega), List.nil_append]
    simp only [Option.bind_some]
    rw [brooklaw20_Bytes.l3.eq hW, rowI_len, h6]
    simp only [show decide (IntKind.wrap .i64 ((6 : Int) + 5) < ((6 : Nat) : Int)) = false from rfl, cond_false, Option.bind_some]
    exact .some ht
  refine Yes.bind (P := fun z => z = false → g.k ≤ 9) (.cond (fun _ => .some fun h => by cases h) fun hc => Yes.bind (P := fun _ => True) (.cond (fun _ => yes_byte hl ⟨by omega, by omega⟩ fun v hv => .some trivial) fun _ => .some trivial) fun z _ => .some fun _ => by have h9 : ¬ (9 : Int) < g.k := of_decide_eq_false hc; omega) fun z4 hz4 => ?_
  refine .cond (fun _ => ?_) fun hc => ?_
  · refine yes_byte hl ⟨by omega, by omega⟩ fun v hv => ?_
    refine s_put hW (m := ⟨IntKind.wrap .i64 v, 9, [], [], 0, 0, zF, [], [], [], [], [], false, [], 0, 0, 0, [], []⟩) (by simp [sG, sF, sFs, sS, sMs, sAs, zF]) fun t ht h => stop t ?_ ht
    rcases h with h | h
    · exact .inl h
    · exact .inr ⟨_, h, by show (9 : Int) ≤ 9; omega⟩
  · refine s_put hW (m := g) (by omega) fun t ht h => stop t ?_ ht
    rcases h with h | h
    · exact .inl h
    · exact .inr ⟨_, h, hz4 hc⟩
theorem ConnRests_row (hA : brooklaw20_awake.f call = some (true, ())) (hF : Facts call) (l : List Int) (hl : bytesI l) (f : List Int) (hf : bytesI f) (s : List UInt8) (n : Int) (hn : IntKind.u16.min ≤ n ∧ n ≤ IntKind.u16.max) : brooklaw20_ConnRests.f call (rowI l) (rowI f) s n = some (true, ()) := by
  have hn0 : 0 ≤ n := hn.1
  have hn1 : n ≤ 65535 := hn.2
  rw [brooklaw20_ConnRests.eq hW]
  simp only [rowI_len]
  by_cases h1 : (l.length : Int) < 6
  · simp only [decide_eq_true h1, cond_true, Option.bind_some, hA]
  simp only [decide_eq_false h1, cond_false, Option.bind_some]
  by_cases h2 : (8 : Int) < (f.length : Int)
  · simp only [decide_eq_true h2, cond_true, Option.bind_some, hA]
  simp only [decide_eq_false h2, cond_false, Option.bind_some]
  by_cases h3 : (30 : Int) < (s.length : Int)
  · simp only [decide_eq_true h3, cond_true, Option.bind_some, hA]
  simp only [decide_eq_false h3, cond_false, Option.bind_some]
  obtain ⟨_, e1, l', rfl, hl', hll⟩ := yes_subz hl (a := 0) (b := 6) (by omega) (by omega) (by omega)
  rw [e1]
  simp only [Option.bind_some]
  obtain ⟨⟨b, _⟩, e, hb⟩ := Bytes_six hW hF l' f s hl' (by omega) hf (by omega) (by omega)
  rw [e]
  simp only [Option.bind_some] at hb ⊢
  rcases hb with rfl | ⟨m, hm, hk⟩
  · simp only [decide_true, cond_true, hA, Option.bind_some]
  obtain ⟨b2, b3⟩ := told_len hm
  have hne : b ≠ [] := by intro h; subst h; simp at b2
  have hl0 : ¬ (b.length : Int) = 0 := by omega
  simp only [decide_eq_false hne, decide_eq_false hl0, cond_false, Bool.not_false, cond_true, Option.bind_some]
  rw [w64 (x := n) (by omega) (by omega)]
  have hc := tmr (x := n) (c := (b.length : Int)) hn0 (by omega)
  generalize Int.tmod n (b.length : Int) = c at hc
  obtain ⟨c, rfl⟩ : ∃ k : Nat, c = k := ⟨c.toNat, by omega⟩
  rw [subs_eq b (l := 0) (h := (c : Int)) (by omega) (by omega) (by omega), subs_all b (l := (c : Int)) (by omega) (by omega)]
  rw [Int.toNat_zero, List.drop_zero, show ((c : Int) - 0).toNat = c by omega, show ((c : Int)).toNat = c by omega]
  have htl : (b.take c).length ≤ b.length := by rw [List.length_take]; omega
  have hdl : (b.drop c).length ≤ b.length := by rw [List.length_drop]; omega
  have w1 := told_wait hm c (by omega)
  simp only [Option.bind_some]
  rw [Feed_eq hW [99, 110, 61, 119] [] (b.take c) (by simp; omega), List.nil_append, w1]
  simp only [Option.bind_some, show decide (0 = 1) = false from rfl]
  rw [Feed_eq hW [99, 110, 61, 119] (b.take c) (b.drop c) (by omega), List.take_append_drop]
  obtain ⟨f1, f2, f3⟩ := told_fed hm hk
  rw [f1, f2, decide_eq_false f3, GetMsg_yes hW hm]
  have hix : ix 23 (dGs [m]) 0 = some (dMg m) := ix_msg [m] 0 (by simp)
  simp only [Option.bind_some, Bool.not_false, cond_true, decide_true, dGs_len, List.length_nil, List.length_cons, got, hix, dec_msg]
  rw [SameMsg_eq hW m m (told_sz hm)]
  simp only [Option.bind_some, eqB_self, cond_true, hA]
  rfl
end
end Go.Proofs.YtejgmifipdcneaaGreat.B
