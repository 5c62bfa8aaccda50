/- The law ConnAll, of plain data. Conditions: those of each theorem. -/
import Derived.Test.YtejgmifipdcneaaGreatVb
namespace Go.Proofs.YtejgmifipdcneaaGreat.B
open Go Go.Proofs Go.Proofs.YtejgmifipdcneaaGreat.I
set_option linter.unusedVariables false
set_option linter.unusedSimpArgs false
set_option maxRecDepth 100000
def isConn (P : Program) (t : TypeId) : Bool := match flds P t with
  | [(0, a), (1, b), (2, c)] => uStr P a && uStr P b && uBool P c && Nat.beq (P.cellsOf t) 3
  | _ => false
theorem ty_conn {P : Program} {t : TypeId} (hF : isConn P t = true) {ds : List D} (h : Ty P t ds) : ∃ (w r : List UInt8) (o : Bool), ds = [.str w, .str r, .bool o] := by
  unfold isConn at hF
  split at hF
  · rename_i a b c hfl
    simp only [Bool.and_eq_true] at hF
    obtain ⟨⟨⟨ha, hb⟩, hc⟩, hn⟩ := hF
    have hn := beq_iff.1 hn
    obtain ⟨hl, hx⟩ := ty_struct (by rw [hfl]; simp) h
    rw [hfl] at hx
    obtain ⟨w, g0, _⟩ := ty_str ha (hx (0, a) (by simp))
    obtain ⟨r, g1, _⟩ := ty_str hb (hx (1, b) (by simp))
    obtain ⟨o, g2⟩ := ty_bool hc (hx (2, c) (by simp))
    obtain ⟨x0, x1, x2, rfl⟩ := three' (hl.trans hn)
    have r0 := get_of g0; have r1 := get_of g1; have r2 := get_of g2
    clear g0 g1 g2
    simp at r0 r1 r2
    subst r0 r1 r2
    exact ⟨w, r, o, rfl⟩
  · cases hF
theorem fed_sz (s : List UInt8) : ∀ m ∈ (fed s).1, sG m ≤ 1073741824 := by
  suffices H : ∀ (k : Nat) (s : List UInt8), s.length ≤ k → ∀ m ∈ (fed s).1, sG m ≤ 1073741824 from H _ s (Nat.le_refl _)
  intro k
  induction k with
  | zero =>
    intro s h
    have : s = [] := List.length_eq_zero_iff.1 (by omega)
    subst this
    rw [fed_eq]; simp [pE_nil]
  | succ k ih =>
    intro s h
    rw [fed_eq]
    by_cases c6 : pE s = 6
    · rw [if_pos c6]; simp
    rw [if_neg c6]
    by_cases c0 : pE s = 0
    · rw [if_pos c0]
      obtain ⟨h1, h2, _, _⟩ := parse_ok c0
      have hl : (s.drop (pLn s)).length = s.length - pLn s := List.length_drop
      have := ih (s.drop (pLn s)) (by omega)
      cases ht : toldOf (s.take (pLn s)) with
      | none => simp
      | some m =>
        have hm := told_sz (toldOf_some ht)
        simp only []
        split
        · simp
        · split
          · intro x hx; rw [List.mem_singleton.1 hx]; exact hm
          · intro x hx
            rcases List.mem_cons.1 hx with rfl | hx
            · exact hm
            · exact this x hx
    · rw [if_neg c0]; simp
section
variable {call : Oracle} {lp : Loops} (hW : Fix Tryz.prog hs call lp)
include hW
theorem ConnAll_eq (hA : brooklaw20_awake.f call = some (true, ())) (w r : List UInt8) (o : Bool) (s : List UInt8) : brooklaw20_ConnAll.f call (w, r, o, ()) s = some (true, ()) := by
  rw [brooklaw20_ConnAll.eq hW]
  simp only []
  by_cases h1 : (1000 : Int) < (r.length : Int)
  · simp only [decide_eq_true h1, cond_true, Option.bind_some, hA]
  simp only [decide_eq_false h1, cond_false, Option.bind_some]
  by_cases h2 : (1500 : Int) < (s.length : Int)
  · simp only [decide_eq_true h2, cond_true, Option.bind_some, hA]
  simp only [decide_eq_false h2, cond_false, Option.bind_some]
  cases o
  · rw [Feed_eq hW w r s (by omega), rFeed_eq hW w r s (by omega)]
    have hl := (fed_len (r ++ s)).1
    rw [List.length_append] at hl
    simp only [Option.bind_some, decide_true, BEq.rfl, Bool.and_true, cond_true]
    rw [sameMsgs_eq hW _ _ (by omega) (fed_sz _)]
    simp only [Option.bind_some, eqB_self, cond_true, hA]
  · rw [Feed_over hW, rFeed_over hW]
    simp only [Option.bind_some, decide_true, BEq.rfl, Bool.and_true, cond_true]
    rw [show ([] : List (List D)) = dGs [] from rfl, sameMsgs_eq hW [] [] (by simp) (by simp)]
    simp only [Option.bind_some, eqB_self, cond_true, hA]
end
end Go.Proofs.YtejgmifipdcneaaGreat.B
