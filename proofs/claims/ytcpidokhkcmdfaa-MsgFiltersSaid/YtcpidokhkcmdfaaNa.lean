/- The law MsgKinds, of plain data. Conditions: those of each theorem; Facts of closed calls. -/
import Derived.Test.YtcpidokhkcmdfaaMb
namespace Go.Proofs.Ytcpidokhkcmdfaa.B
open Go Go.Proofs Go.Proofs.Ytcpidokhkcmdfaa.I
set_option linter.unusedVariables false
set_option linter.unusedSimpArgs false
set_option maxRecDepth 100000
theorem may_parts {m : Mg} (h : mayM m = true) : withinB m.id 2147483647 = true ∧ kindB m = true ∧ onlyM m = m ∧ 0 ≤ lenS 12 (msgT m) := by
  unfold mayM at h
  simp only [Bool.and_eq_true, eqB_iff, decide_eq_true_eq] at h
  exact ⟨h.1.1.1, h.1.1.2, h.1.2, h.2⟩
theorem only_code {m : Mg} (h : onlyM m = m) (h9 : m.k ≠ 11) : m.code = 0 := by
  obtain ⟨id, k, dn, val, scope, limit, flt, types, mods, edn, attrs, rdn, old, typ, n, ofk, code, text, refs⟩ := m
  simp only at h9
  simp only [onlyM, zM] at h
  repeat (first | exact (congrArg Mg.code h).symm | (exfalso; rename_i h2; omega) | split at h)
theorem only_val {m : Mg} (h : onlyM m = m) (h1 : m.k ≠ 1) (h8 : m.k ≠ 8) : m.val = [] := by
  obtain ⟨id, k, dn, val, scope, limit, flt, types, mods, edn, attrs, rdn, old, typ, n, ofk, code, text, refs⟩ := m
  simp only at h1 h8
  simp only [onlyM, zM] at h
  repeat (first | exact (congrArg Mg.val h).symm | (exfalso; rename_i h2; omega) | split at h)
theorem only_scope {m : Mg} (h : onlyM m = m) (h1 : m.k ≠ 3) : m.scope = 0 := by
  obtain ⟨id, k, dn, val, scope, limit, flt, types, mods, edn, attrs, rdn, old, typ, n, ofk, code, text, refs⟩ := m
  simp only at h1
  simp only [onlyM, zM] at h
  repeat (first | exact (congrArg Mg.scope h).symm | (exfalso; rename_i h2; omega) | split at h)
theorem only_old {m : Mg} (h : onlyM m = m) (h1 : m.k ≠ 7) : m.old = false := by
  obtain ⟨id, k, dn, val, scope, limit, flt, types, mods, edn, attrs, rdn, old, typ, n, ofk, code, text, refs⟩ := m
  simp only at h1
  simp only [onlyM, zM] at h
  repeat (first | exact (congrArg Mg.old h).symm | (exfalso; rename_i h2; omega) | split at h)
theorem only_edn {m : Mg} (h : onlyM m = m) (h1 : m.k ≠ 5) (h2 : m.k ≠ 10) : m.edn = [] := by
  obtain ⟨id, k, dn, val, scope, limit, flt, types, mods, edn, attrs, rdn, old, typ, n, ofk, code, text, refs⟩ := m
  simp only at h1 h2
  simp only [onlyM, zM] at h
  repeat (first | exact (congrArg Mg.edn h).symm | (exfalso; rename_i h3; omega) | split at h)
section
variable {call : Oracle} {lp : Loops} (hW : Fix Try.prog hs call lp)
include hW
theorem kind_no (hA : brooklaw19_awake.f call = some (true, ())) (m : Mg) (hs : sG m ≤ 100000000) (h : ¬ mayM m = true) : ((msg_May.f call (tupM m)).bind fun t5 => (bif !t5.1 then (msg_Put.f call (tupM m)).bind fun t7 => some (decide (t7.1 = [])) else some false).bind fun z6 => (bif z6 then (brooklaw19_awake.f call).bind fun t9 => some t9.1 else some false).bind fun z8 => some (z8, ())) = some (true, ()) := by
  rw [MayM_eq hW m hs, PutM_eq hW m hs, Bool.eq_false_iff.2 h, hA]
  rfl
end
end Go.Proofs.Ytcpidokhkcmdfaa.B
