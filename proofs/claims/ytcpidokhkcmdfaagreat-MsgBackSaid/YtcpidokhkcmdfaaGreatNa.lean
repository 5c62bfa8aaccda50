/- The law MsgKinds, of plain data. Conditions: those of each theorem; Facts of closed calls. -/
import Derived.Test.YtcpidokhkcmdfaaGreatMf
namespace Go.Proofs.YtcpidokhkcmdfaaGreat.B
open Go Go.Proofs Go.Proofs.YtcpidokhkcmdfaaGreat.I
set_option linter.unusedVariables false
set_option linter.unusedSimpArgs false
set_option maxRecDepth 100000
theorem may_parts {m : Mg} (h : mayM m = true) : withinB m.id 2147483647 = true ∧ kindB m = true ∧ onlyM m = m ∧ 0 ≤ lenS 12 (msgT m) := by
  unfold mayM at h
  simp only [Bool.and_eq_true, eqB_iff, decide_eq_true_eq] at h
  exact ⟨h.1.1.1, h.1.1.2, h.1.2, h.2⟩
theorem only_code {m : Mg} (h : onlyM m = m) (h9 : m.k ≠ 11) : m.code = 0 := by
  obtain ⟨id, k, dn, val, scope, limit, flt, types, mods, edn, attrs, rdn, old, typ, n, ofk, code, text, refs⟩ := m
  simp only at h9
  simp only [onlyM, zM] at h
  repeat (first | exact (congrArg Mg.code h).symm | (exfalso; rename_i h2; omega) | split at h)
theorem only_val {m : Mg} (h : onlyM m = m) (h1 : m.k ≠ 1) (h8 : m.k ≠ 8) : m.val = [] := by
  obtain ⟨id, k, dn, val, scope, limit, flt, types, mods, edn, attrs, rdn, old, typ, n, ofk, code, text, refs⟩ := m
  simp only at h1 h8
  simp only [onlyM, zM] at h
  repeat (first | exact (congrArg Mg.val h).symm | (exfalso; rename_i h2; omega) | split at h)
theorem only_scope {m : Mg} (h : onlyM m = m) (h1 : m.k ≠ 3) : m.scope = 0 := by
  obtain ⟨id, k, dn, val, scope, limit, flt, types, mods, edn, attrs, rdn, old, typ, n, ofk, code, text, refs⟩ := m
  simp only at h1
  simp only [onlyM, zM] at h
  repeat (first | exact (congrArg Mg.scope h).symm | (exfalso; rename_i h2; omega) | split at h)
theorem only_old {m : Mg} (h : onlyM m = m) (h1 : m.k ≠ 7) : m.old = false := by
  obtain ⟨id, k, dn, val, scope, limit, flt, types, mods, edn, attrs, rdn, old, typ, n, ofk, code, text, refs⟩ := m
  simp only at h1
  simp only [onlyM, zM] at h
  repeat (first | exact (congrArg Mg.old h).symm | (exfalso; rename_i h2; omega) | split at h)
theorem only_edn {m : Mg} (h : onlyM m = m) (h1 : m.k ≠ 5) (h2 : m.k ≠ 10) : m.edn = [] := by
  obtain ⟨id, k, dn, val, scope, limit, flt, types, mods, edn, attrs, rdn, old, typ, n, ofk, code, text, refs⟩ := m
  simp only at h1 h2
  simp only [onlyM, zM] at h
  repeat (first | exact (congrArg Mg.edn h).symm | (exfalso; rename_i h3; omega) | split at h)
section
variable {call : Oracle} {lp : Loops} (hW : Fix Tryz.prog hs call lp)
include hW
theorem kind_no (hA : brooklaw19_awake.f call = some (true, ())) (m : Mg) (hs : sG m ≤ 100000000) (h : ¬ mayM m = true) : ((msg_May.f call (tupM m)).bind fun t5 => (bif !t5.1 then (msg_Put.f call (tupM m)).bind fun t7 => some (decide (t7.1 = [])) else some false).bind fun z6 => (bif z6 then (brooklaw19_awake.f call).bind fun t9 => some t9.1 else some false).bind fun z8 => some (z8, ())) = some (true, ()) := by
  rw [MayM_eq hW m hs, PutM_eq hW m hs, Bool.eq_false_iff.2 h, hA]
  rfl
theorem MsgKinds_eq (hF : Facts call) (hA : brooklaw19_awake.f call = some (true, ())) (l f : List Int) (hl : bytesI l) (hf : bytesI f) (n : Int) (hn : By n) : brooklaw19_MsgKinds.f call (rowI l) (rowI f) n = some (true, ()) := by
  rw [brooklaw19_MsgKinds.eq hW, rowI_len]
  by_cases h6 : (6 : Int) < (f.length : Int)
  · rw [decide_eq_true h6, cond_true, hA]; rfl
  rw [decide_eq_false h6, cond_false]
  obtain ⟨_, e, g, rfl, hg, hk1, hk2⟩ := Make_yes hW hF l f [115] hl hf (by omega) (by decide)
  rw [e]
  simp only [Option.bind_some]
  rw [MayMsg_eq hW g (by omega)]
  simp only [Option.bind_some]
  cases hm : mayM g with
  | false => simp only [Bool.not_false, cond_true, hA, Option.bind_some]
  | true =>
  simp only [Bool.not_true, cond_false]
  obtain ⟨p1, p2, p3, p4⟩ := may_parts hm
  have hn0 := hn.1; have hn1 := hn.2
  have hw : IntKind.wrap .i64 n = n := w64 (by omega) (by omega)
  rw [hw, w64 (x := -1 - n) (by omega) (by omega), w64 (x := 12 + n) (by omega) (by omega)]
  have sz := hg
  unfold sG at sz
  by_cases c : Int.tmod n 9 = 0
  · rw [decide_eq_true c, cond_true]
    refine kind_no hW hA ⟨-1 - n, g.k, g.dn, g.val, g.scope, g.limit, g.flt, g.types, g.mods, g.edn, g.attrs, g.rdn, g.old, g.typ, g.n, g.ofk, g.code, g.text, g.refs⟩ (by unfold sG; simp only []; omega) fun h => ?_
    obtain ⟨q, _⟩ := may_parts h
    simp only [withinB, Bool.and_eq_true, decide_eq_true_eq] at q
    omega
  rw [decide_eq_false c, cond_false]
  by_cases c : Int.tmod n 9 = 1
  · rw [decide_eq_true c, cond_true]
    refine kind_no hW hA ⟨2147483648, g.k, g.dn, g.val, g.scope, g.limit, g.flt, g.types, g.mods, g.edn, g.attrs, g.rdn, g.old, g.typ, g.n, g.ofk, g.code, g.text, g.refs⟩ (by unfold sG; simp only []; omega) fun h => ?_
    obtain ⟨q, _⟩ := may_parts h
    simp only [withinB, Bool.and_eq_true, decide_eq_true_eq] at q
    omega
  rw [decide_eq_false c, cond_false]
  by_cases c : Int.tmod n 9 = 2
  · rw [decide_eq_true c, cond_true]
    refine kind_no hW hA ⟨g.id, 12 + n, g.dn, g.val, g.scope, g.limit, g.flt, g.types, g.mods, g.edn, g.attrs, g.rdn, g.old, g.typ, g.n, g.ofk, g.code, g.text, g.refs⟩ (by unfold sG; simp only []; omega) fun h => ?_
    obtain ⟨_, q, _⟩ := may_parts h
    have := kind_bd q
    simp only [] at this
    omega
  rw [decide_eq_false c, cond_false]
  by_cases c : Int.tmod n 9 = 3
  · rw [decide_eq_true c, cond_true]
    refine kind_no hW hA ⟨g.id, g.k, g.dn, g.val, g.scope, g.limit, g.flt, g.types, g.mods, g.edn, g.attrs, g.rdn, g.old, g.typ, 2147483648, g.ofk, g.code, g.text, g.refs⟩ (by unfold sG; simp only []; omega) fun h => ?_
    obtain ⟨_, q, q2, _⟩ := may_parts h
    by_cases k9 : g.k = 9
    · unfold kindB at q
      simp [k9, withinB] at q
    · have := only_n q2 k9
      simp at this
  rw [decide_eq_false c, cond_false]
  by_cases c : Int.tmod n 9 = 4
  · rw [decide_eq_true c, cond_true]
    by_cases k11 : g.k = 11
    · rw [decide_eq_true k11, cond_true, hA]; rfl
    rw [decide_eq_false k11, cond_false]
    refine kind_no hW hA ⟨g.id, g.k, g.dn, g.val, g.scope, g.limit, g.flt, g.types, g.mods, g.edn, g.attrs, g.rdn, g.old, g.typ, g.n, g.ofk, 3, g.text, g.refs⟩ (by unfold sG; simp only []; omega) fun h => ?_
    obtain ⟨_, q, q2, _⟩ := may_parts h
    have := only_code q2 k11
    simp at this
  rw [decide_eq_false c, cond_false]
  by_cases c : Int.tmod n 9 = 5
  · rw [decide_eq_true c, cond_true]
    by_cases k1 : g.k = 1
    · rw [decide_eq_true k1]; simp only [cond_true, Option.bind_some, hA]
    rw [decide_eq_false k1, cond_false]
    by_cases k8 : g.k = 8
    · rw [decide_eq_true k8]; simp only [cond_true, Option.bind_some, hA]
    rw [decide_eq_false k8]
    simp only [cond_false, Option.bind_some]
    refine kind_no hW hA ⟨g.id, g.k, g.dn, [118], g.scope, g.limit, g.flt, g.types, g.mods, g.edn, g.attrs, g.rdn, g.old, g.typ, g.n, g.ofk, g.code, g.text, g.refs⟩ (by unfold sG; simp only [List.length_cons, List.length_nil]; omega) fun h => ?_
    obtain ⟨_, q, q2, _⟩ := may_parts h
    have := only_val q2 k1 k8
    simp at this
  rw [decide_eq_false c, cond_false]
  by_cases c : Int.tmod n 9 = 6
  · rw [decide_eq_true c, cond_true]
    refine kind_no hW hA ⟨g.id, g.k, g.dn, g.val, 3, g.limit, g.flt, g.types, g.mods, g.edn, g.attrs, g.rdn, g.old, g.typ, g.n, g.ofk, g.code, g.text, g.refs⟩ (by unfold sG; simp only []; omega) fun h => ?_
    obtain ⟨_, q, q2, _⟩ := may_parts h
    by_cases k3 : g.k = 3
    · unfold kindB at q
      simp [k3, withinB] at q
    · have := only_scope q2 k3
      simp at this
  rw [decide_eq_false c, cond_false]
  by_cases c : Int.tmod n 9 = 7
  · rw [decide_eq_true c, cond_true]
    by_cases k7 : g.k = 7
    · rw [decide_eq_true k7, cond_true, hA]; rfl
    rw [decide_eq_false k7, cond_false]
    refine kind_no hW hA ⟨g.id, g.k, g.dn, g.val, g.scope, g.limit, g.flt, g.types, g.mods, g.edn, g.attrs, g.rdn, true, g.typ, g.n, g.ofk, g.code, g.text, g.refs⟩ (by unfold sG; simp only []; omega) fun h => ?_
    obtain ⟨_, q, q2, _⟩ := may_parts h
    have := only_old q2 k7
    simp at this
  rw [decide_eq_false c, cond_false]
  by_cases k5 : g.k = 5
  · rw [decide_eq_true k5]; simp only [cond_true, Option.bind_some, hA]
  rw [decide_eq_false k5, cond_false]
  by_cases k10 : g.k = 10
  · rw [decide_eq_true k10]; simp only [cond_true, Option.bind_some, hA]
  rw [decide_eq_false k10]
  simp only [cond_false, Option.bind_some]
  refine kind_no hW hA ⟨g.id, g.k, g.dn, g.val, g.scope, g.limit, g.flt, g.types, g.mods, [111, 61, 120], g.attrs, g.rdn, g.old, g.typ, g.n, g.ofk, g.code, g.text, g.refs⟩ (by unfold sG; simp only [List.length_cons, List.length_nil]; omega) fun h => ?_
  obtain ⟨_, q, q2, _⟩ := may_parts h
  have := only_edn q2 k5 k10
  simp at this
theorem MsgKinds_row (hA : brooklaw19_awake.f call = some (true, ())) (hF : Facts call) (l : List Int) (hl : bytesI l) (f : List Int) (hf : bytesI f) (n : Int) (hn : IntKind.u8.min ≤ n ∧ n ≤ IntKind.u8.max) : brooklaw19_MsgKinds.f call (rowI l) (rowI f) n = some (true, ()) :=
  MsgKinds_eq hW hF hA l f hl hf n ⟨hn.1, by have h : n ≤ 255 := hn.2; omega⟩
end
end Go.Proofs.YtcpidokhkcmdfaaGreat.B
