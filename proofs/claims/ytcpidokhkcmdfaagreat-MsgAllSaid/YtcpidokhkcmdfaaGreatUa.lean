/- The law MsgAll, of plain data. Conditions: those of each theorem. -/
import Derived.Test.YtcpidokhkcmdfaaGreatTr
namespace Go.Proofs.YtcpidokhkcmdfaaGreat.B
open Go Go.Proofs Go.Proofs.YtcpidokhkcmdfaaGreat.I
set_option linter.unusedVariables false
set_option linter.unusedSimpArgs false
set_option maxRecDepth 100000
theorem told_sG {s : List UInt8} {m : Mg} (h : Told s m) : sG m ≤ 1073741824 := by
  have h1 := parse_sz s
  have h2 := told_parse h []
  rw [List.append_nil] at h2
  rw [h2] at h1
  have h3 := rdM_sz (msgT m)
  rw [rdM_msg h.1] at h3
  have h4 := told_len h
  have h5 : wt (msgT m) ≤ s.length + 1 := h1.1
  have h6 : lenW (msgT m) ≤ s.length := h1.2
  omega
section
variable {call : Oracle} {lp : Loops} (hW : Fix Tryz.prog hs call lp)
include hW
theorem MsgAll_eq (hA : brooklaw19_awake.f call = some (true, ())) (a b : Mg) (s : List UInt8) : brooklaw19_MsgAll.f call (tupM a) (tupM b) s = some (true, ()) := by
  rw [brooklaw19_MsgAll.eq hW]
  obtain ⟨ba, ea, ha⟩ := Great_eq hW a
  obtain ⟨bb, eb, hb⟩ := Great_eq hW b
  rw [ea, eb]
  simp only [Option.bind_some]
  cases ba
  case true => simp only [cond_true, Option.bind_some, hA]
  cases bb
  case true => simp only [cond_true, cond_false, Option.bind_some, hA]
  have ha := ha rfl
  have hb := hb rfl
  simp only [cond_false, Option.bind_some]
  by_cases hs : (2000 : Int) < (s.length : Int)
  · simp only [decide_eq_true hs, cond_true, Option.bind_some, hA]
  simp only [decide_eq_false hs, cond_false, Option.bind_some]
  have hs : s.length ≤ 2000000 := by omega
  rw [MayM_eq hW a ha, MayMsg_eq hW a ha]
  simp only [Option.bind_some]
  rw [PutM_eq hW a ha, PutMsg_eq hW a ha]
  have hsame : ∀ x y : Mg, sG x ≤ 1073741824 → (msg_Same.f call (tupM x) (tupM y) = some (eqB x y, ()) ∧ brookref19_SameMsg.f call (tupM x) (tupM y) = some (eqB x y, ())) := fun x y h => ⟨Same_eq hW x y h, SameMsg_eq hW x y h⟩
  have h0 : sG (zM 0 0) ≤ 1000 := by simp [sG, zM, zF, sF, sFs, sS, sMs, sAs]
  by_cases ht : ∃ m, Told s m
  · obtain ⟨m, hm⟩ := ht
    rw [GetM_yes hW hm, GetMsg_yes hW hm]
    have hm1 : sG m ≤ 1073741824 := told_sG hm
    simp only [Option.bind_some, got, (hsame m m hm1).2, (hsame a b (by omega)).1, (hsame a b (by omega)).2, (hsame a a (by omega)).1, eqB_self, decide_true, BEq.rfl, cond_true, hA]
  · have ht : ∀ m, ¬ Told s m := fun m h => ht ⟨m, h⟩
    rw [GetM_no hW hs ht, GetMsg_no hW hs ht]
    simp only [Option.bind_some, got, (hsame (zM 0 0) (zM 0 0) (by omega)).2, (hsame a b (by omega)).1, (hsame a b (by omega)).2, (hsame a a (by omega)).1, eqB_self, decide_true, BEq.rfl, cond_true, hA]
end
end Go.Proofs.YtcpidokhkcmdfaaGreat.B
