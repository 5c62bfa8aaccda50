/- Bytes of messages by numbers come, and are not many; the law ConnPieces, of plain data. Conditions: those of each theorem; Facts of closed calls. -/
import Derived.Test.YtejgmifipdcneaaGreatVb
import Derived.Test.YtejgmifipdcneaaGreatMf
namespace Go.Proofs.YtejgmifipdcneaaGreat.B
open Go Go.Proofs Go.Proofs.YtejgmifipdcneaaGreat.I
set_option linter.unusedVariables false
set_option linter.unusedSimpArgs false
set_option maxRecDepth 100000
section
variable {call : Oracle} {lp : Loops} (hW : Fix Tryz.prog hs call lp)
include hW
theorem Put_yes (m : Mg) (h : sG m ≤ 100000000) : Yes (brookref19_PutMsg.f call (tupM m)) fun r => r.1.length ≤ 1048581 ∧ (r.1 = [] ∨ Told r.1 m) := by
  rw [PutMsg_eq hW m h]
  refine .some ?_
  by_cases hm : mayM m = true
  · rw [if_pos hm]
    have ht : Told (strOfNums (enc (msgT m))) m := ⟨hm, rfl⟩
    exact ⟨(told_len ht).2, .inr ht⟩
  · rw [if_neg hm]
    exact ⟨by simp, .inl rfl⟩
theorem s_put {m : Mg} (h : sG m ≤ 100000000) {β : Type} {F : List UInt8 × Unit → Option β} {Q : β → Prop} (k : ∀ s : List UInt8, s.length ≤ 1048581 → (s = [] ∨ Told s m) → Yes (F (s, ())) Q) : Yes ((brookref19_PutMsg.f call (tupM m)).bind F) Q := (Put_yes hW m h).bind fun ⟨s, _⟩ ⟨h1, h2⟩ => k s h1 h2
theorem Bytes_loop (hF : Facts call) (l f : List Int) (s : List UInt8) (hl : bytesI l) (hf : bytesI f) (hf2 : f.length ≤ 10) (hs : s.length ≤ 60) : ∀ (m : Nat) (x8 : Int) (out : List UInt8), 0 ≤ x8 → x8 ≤ 66 → (66 - x8).toNat ≤ m → out.length ≤ x8.toNat * 1048581 → Yes (brooklaw20_Bytes.l3 call lp (rowI l) (rowI f) s out x8) fun r => r.1.length ≤ 80000000 := by
  intro m
  induction m with
  | zero =>
    intro x8 out h0 h1 hm ho
    rw [brooklaw20_Bytes.l3.eq hW]
    refine Yes.bind (P := fun z => z = false) (.cond (fun _ => .some (decide_eq_false (by omega))) fun _ => .some rfl) fun z hz => ?_
    subst hz
    exact .some (by show out.length ≤ 80000000; omega)
  | succ m ih =>
    intro x8 out h0 h1 hm ho
    rw [brooklaw20_Bytes.l3.eq hW, rowI_len]
    rw [w64 (x := x8 + 5) (by omega) (by omega), w64 (x := x8 + 6) (by omega) (by omega), w64 (x := x8 + 3) (by omega) (by omega)]
    refine Yes.bind (P := fun z => z = true → x8 + 5 < l.length ∧ x8 < 60) (.cond (fun hc => .some fun hz => ⟨of_decide_eq_true hc, of_decide_eq_true hz⟩) fun _ => .some fun h => by cases h) fun z hz => ?_
    refine .cond (fun hc => ?_) fun _ => .some (by show out.length ≤ 80000000; omega)
    obtain ⟨g1, g2⟩ := hz hc
    refine Yes.bind (yes_subz hl h0 (show x8 ≤ x8 + 6 by omega) (by omega)) fun t2 ⟨l', hr, hl', _⟩ => ?_
    subst hr
    refine Yes.bind (Make_yes hW hF l' f s hl' hf hf2 hs) fun t3 ⟨g, hr, hg, _, _⟩ => ?_
    subst hr
    have next : ∀ t : List UInt8, t.length ≤ 1048581 → Yes ((cat out t).bind fun t13 => brooklaw20_Bytes.l3 call lp (rowI l) (rowI f) s t13 (x8 + 6)) fun r => r.1.length ≤ 80000000 := by
      intro t ht
      refine Yes.bind (yes_cat (by omega) (by omega)) fun t' ht' => ?_
      exact ih (x8 + 6) t' (by omega) (by omega) (by omega) (by omega)
    refine Yes.bind (P := fun _ => True) (.cond (fun _ => .some trivial) fun _ => Yes.bind (P := fun _ => True) (.cond (fun _ => yes_byte hl ⟨by omega, by omega⟩ fun v hv => .some trivial) fun _ => .some trivial) fun z _ => .some trivial) fun z4 _ => ?_
    refine .cond (fun _ => ?_) fun _ => ?_
    · refine yes_byte hl ⟨h0, by omega⟩ fun v hv => ?_
      exact s_put hW (m := ⟨IntKind.wrap .i64 v, 9, [], [], 0, 0, zF, [], [], [], [], [], false, [], 0, 0, 0, [], []⟩) (by simp [sG, sF, sFs, sS, sMs, sAs, zF]) fun t ht _ => next t ht
    · exact s_put hW (m := g) (by omega) fun t ht _ => next t ht
theorem Bytes_yes (hF : Facts call) (l f : List Int) (s : List UInt8) (hl : bytesI l) (hf : bytesI f) (hf2 : f.length ≤ 10) (hs : s.length ≤ 60) : Yes (brooklaw20_Bytes.f call (rowI l) (rowI f) s) fun r => r.1.length ≤ 80000000 := by
  rw [brooklaw20_Bytes.eq hW]
  exact Bytes_loop hW hF l f s hl hf hf2 hs 66 0 [] (by omega) (by omega) (by omega) (by simp)
end
end Go.Proofs.YtejgmifipdcneaaGreat.B
