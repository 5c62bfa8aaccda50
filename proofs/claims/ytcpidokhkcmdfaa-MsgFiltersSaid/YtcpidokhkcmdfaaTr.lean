/- What statements go through is not so large. Conditions: those of each theorem. -/
import Derived.Test.YtcpidokhkcmdfaaTo
namespace Go.Proofs.Ytcpidokhkcmdfaa.B
open Go Go.Proofs Go.Proofs.Ytcpidokhkcmdfaa.I
set_option linter.unusedVariables false
set_option linter.unusedSimpArgs false
set_option maxRecDepth 100000
theorem sS_le (b : Nat) : ∀ l : List (List UInt8), (∀ s ∈ l, s.length ≤ b) → sS l ≤ l.length * (b + 1)
  | [], _ => by simp [sS]
  | s :: r, h => by
    have := sS_le b r fun x hx => h x (List.mem_cons_of_mem _ hx)
    have := h s (by simp)
    simp only [sS, List.length_cons, Nat.add_mul]; omega
/-- A loop that looks for what is too large. -/
theorem loop_great {α : Type} {L : Int → Option (Bool × Unit)} {xs : List α} {K : Nat} {e : Bool} {ok : α → Prop} (hstep : ∀ (j : Nat) (h : j < xs.length), j < K → L j = some (true, ()) ∨ (ok xs[j] ∧ L j = L ((j : Int) + 1))) (hend : ∀ j : Nat, (xs.length ≤ j ∨ K ≤ j) → j ≤ xs.length → L j = some (e, ())) : ∃ b, L 0 = some (b, ()) ∧ (b = false → e = false ∧ (xs.length ≤ K → ∀ x ∈ xs, ok x)) := by
  have key : ∀ (m j : Nat), xs.length - j ≤ m → j ≤ xs.length → ∃ b, L j = some (b, ()) ∧ (b = false → e = false ∧ (xs.length ≤ K → ∀ x ∈ xs.drop j, ok x)) := by
    intro m
    induction m with
    | zero =>
      intro j h1 h2
      refine ⟨e, hend j (by omega) h2, fun h => ⟨h, fun _ => ?_⟩⟩
      rw [List.drop_eq_nil_of_le (by omega)]; simp
    | succ m ih =>
      intro j h1 h2
      by_cases h : j < xs.length ∧ j < K
      · rcases hstep j h.1 h.2 with h3 | ⟨h3, h4⟩
        · exact ⟨true, h3, fun h => by cases h⟩
        · obtain ⟨b, g1, g2⟩ := ih (j + 1) (by omega) (by omega)
          refine ⟨b, by rw [h4]; exact g1, fun hb => ⟨(g2 hb).1, fun hK => ?_⟩⟩
          rw [List.drop_eq_getElem_cons h.1]
          intro x hx
          rcases List.mem_cons.1 hx with rfl | hx
          · exact h3
          · exact (g2 hb).2 hK x hx
      · refine ⟨e, hend j (by omega) h2, fun hb => ⟨hb, fun hK => ?_⟩⟩
        rw [List.drop_eq_nil_of_le (by omega)]; simp
  have := key xs.length 0 (by omega) (by omega)
  simpa using this
section
variable {call : Oracle} {lp : Loops} (hW : Fix Try.prog hs call lp)
include hW
theorem great_eq (l : List (List UInt8)) : ∃ b, brooklaw19_great.f call (dSs l) = some (b, ()) ∧ (b = false → sS l ≤ 20000) := by
  obtain ⟨b, h1, h2⟩ := loop_great (L := fun i => brooklaw19_great.l2 call lp (dSs l) i) (xs := l) (K := 60) (e := decide (50 < (l.length : Int))) (ok := fun s => s.length ≤ 300) (fun j h hK => by
    rw [brooklaw19_great.l2.eq hW]
    simp only [andS, Option.bind_some, dSs_len]
    rw [decide_eq_true (show (j : Int) < (l.length : Int) by omega), decide_eq_true (show (j : Int) < 60 by omega), ix_str l j h]
    simp only [Bool.and_self, cond_true, Option.bind_some, dec_str, Bool.cond_decide]
    by_cases c : 300 < (l[j].length : Int)
    · rw [if_pos c]; exact .inl rfl
    · rw [if_neg c, w64 (x := (j : Int) + 1) (by omega) (by omega)]
      exact .inr ⟨by omega, rfl⟩) (fun j h h2 => by
    rw [brooklaw19_great.l2.eq hW]
    simp only [andS, Option.bind_some, dSs_len]
    have : (decide ((j : Int) < (l.length : Int)) && decide ((j : Int) < 60)) = false := by
      rw [Bool.and_eq_false_iff, decide_eq_false_iff_not, decide_eq_false_iff_not]; omega
    rw [this]; rfl)
  rw [brooklaw19_great.eq hW]
  refine ⟨b, h1, fun hb => ?_⟩
  obtain ⟨h3, h4⟩ := h2 hb
  have h3 := of_decide_eq_false h3
  have := sS_le 300 l (h4 (by omega))
  have h5 : l.length * 301 ≤ 50 * 301 := Nat.mul_le_mul_right _ (by omega)
  omega
omit hW in
theorem sMs_le : ∀ l : List Mdf, (∀ x ∈ l, 1 + x.t.length + sS x.vs ≤ 16000) → sMs l ≤ l.length * 16000
  | [], _ => by simp [sMs]
  | x :: r, h => by
    have := sMs_le r fun y hy => h y (List.mem_cons_of_mem _ hy)
    have := h x (by simp)
    simp only [sMs, List.length_cons, Nat.add_mul]; omega
omit hW in
theorem sAs_le : ∀ l : List Att, (∀ x ∈ l, 1 + x.t.length + sS x.vs ≤ 16000) → sAs l ≤ l.length * 16000
  | [], _ => by simp [sAs]
  | x :: r, h => by
    have := sAs_le r fun y hy => h y (List.mem_cons_of_mem _ hy)
    have := h x (by simp)
    simp only [sAs, List.length_cons, Nat.add_mul]; omega
end
end Go.Proofs.Ytcpidokhkcmdfaa.B
