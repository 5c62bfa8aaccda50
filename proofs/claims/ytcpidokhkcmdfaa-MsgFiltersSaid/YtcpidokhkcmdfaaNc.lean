/- The law MsgFilters, of plain data. Conditions: those of each theorem. -/
import Derived.Test.YtcpidokhkcmdfaaTr
import Derived.Test.YtcpidokhkcmdfaaNa
namespace Go.Proofs.Ytcpidokhkcmdfaa.B
open Go Go.Proofs Go.Proofs.Ytcpidokhkcmdfaa.I
set_option linter.unusedVariables false
set_option linter.unusedSimpArgs false
set_option maxRecDepth 100000
theorem le_sS : ∀ vs : List (List UInt8), vs.length ≤ sS vs
  | [] => Nat.zero_le _
  | a :: r => by have := le_sS r; simp only [sS, List.length_cons]; omega
section
variable {call : Oracle} {lp : Loops} (hW : Fix Try.prog hs call lp)
include hW
theorem MsgFilters_row (hA : brooklaw19_awake.f call = some (true, ())) (l : List Int) (hl : bytesI l) (s : List UInt8) (ts : List (List UInt8)) : brooklaw19_MsgFilters.f call (rowI l) s (dSs ts) = some (true, ()) := by
  rw [brooklaw19_MsgFilters.eq hW, rowI_len]
  by_cases h1 : (8 : Int) < (l.length : Int)
  · simp only [decide_eq_true h1, cond_true, Option.bind_some, hA]
  simp only [decide_eq_false h1, cond_false, Option.bind_some]
  by_cases h2 : (40 : Int) < (s.length : Int)
  · simp only [decide_eq_true h2, cond_true, Option.bind_some, hA]
  simp only [decide_eq_false h2, cond_false, Option.bind_some]
  obtain ⟨b, hb, hts⟩ := great_eq hW ts
  rw [hb]
  simp only [Option.bind_some]
  cases b with
  | true => simp only [cond_true, hA, Option.bind_some]
  | false =>
  simp only [cond_false]
  have hts := hts rfl
  obtain ⟨_, e, f, rfl, hf⟩ := mk6 hW s (by omega) 10 l (by omega) (by omega) hl
  have hf := Nat.le_trans hf (VV_lo l.length (by omega)).2
  rw [e]
  simp only [Option.bind_some]
  have hsz : sG ⟨5, 3, s, [], 2, 9, f, ts, [], [], [], [], false, [], 0, 0, 0, [], []⟩ ≤ 100000000 := by
    simp only [sG, sS, sMs, sAs, List.length_nil]; omega
  obtain ⟨m, hm⟩ : ∃ m : Mg, m = ⟨5, 3, s, [], 2, 9, f, ts, [], [], [], [], false, [], 0, 0, 0, [], []⟩ := ⟨_, rfl⟩
  have tm : tupM m = (5, 3, s, [], 2, 9, f.k, f.t, f.v, dSs f.ps, dFs f.ks, dSs ts, [], [], [], [], false, [], 0, 0, 0, [], [], ()) := by rw [hm]; rfl
  rw [← hm] at hsz
  have hmay := MayMsg_eq hW m hsz
  have hput := PutM_eq hW m hsz
  rw [tm] at hmay hput
  rw [hmay]
  simp only [Option.bind_some]
  cases hmm : mayM m with
  | false => simp only [Bool.not_false, cond_true, hA, Option.bind_some]
  | true =>
  rw [if_pos hmm] at hput
  have ht : Told (strOfNums (enc (msgT m))) m := ⟨hmm, rfl⟩
  have hget := GetM_yes hW ht
  rw [tm] at hget
  rw [hput]
  simp only [Option.bind_some, Bool.not_true, cond_false, hget, cond_true]
  have hsf := rfsame_eq hW (sF f) f f (Nat.le_refl _) (by omega)
  have htx := Texts_eq hW ts ts (by have := le_sS ts; omega)
  rw [eqB_self] at hsf htx
  simp only [hsf, htx, Option.bind_some, cond_true, decide_true, hA]
end
end Go.Proofs.Ytcpidokhkcmdfaa.B
