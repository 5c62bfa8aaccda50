/- The reference reads messages: those that it puts, and no others; so both packages read alike. Conditions: those of each theorem. -/
import Derived.Test.YtcpidokhkcmdfaaGreatTp
namespace Go.Proofs.YtcpidokhkcmdfaaGreat.B
open Go Go.Proofs Go.Proofs.YtcpidokhkcmdfaaGreat.I
set_option linter.unusedVariables false
set_option linter.unusedSimpArgs false
set_option maxRecDepth 100000
/-- the message that a tlv would be, as the reference reads it -/
def rdR (t : Tlv) : Mg := if kindT t.f0 = 3 then ⟨0, 3, (pt t 0).f1, [], (rdI (pt t 1).f1).1, (rdI (pt t 3).f1).1, rdF (pt t 6) 12, rdStrs (pt t 7), [], [], [], [], false, [], 0, 0, 0, [], []⟩ else rdB t
theorem rdR_sz (t : Tlv) : sG (rdR t) ≤ 20 * (wt t + lenW t) := by
  unfold rdR
  split
  · have hp := wt_pos t
    have p0 := pt_sz t 0
    have p6 := pt_sz t 6
    have p7 := pt_sz t 7
    have c6 := rdF_sz _ (pt t 6) 12 (Nat.le_refl _)
    have s7 := rdStrs_le (pt t 7)
    simp only [sG, sS, sMs, sAs, List.length_nil]
    omega
  · exact rdB_sz t
theorem rdR_body {m : Mg} (hk : kindB m = true) (ho : onlyM m = m) : rdR (bodyT m) = idM m 0 := by
  have h := rdB_body hk ho
  unfold rdR
  split
  · rename_i h3
    have hb := kind_bd hk
    rw [← h]
    unfold rdB
    rw [if_neg (by omega), if_pos h3]
    have hk3 : m.k = 3 := by
      have h2 := congrArg Mg.k h
      unfold rdB at h2
      rw [if_neg (by omega), if_pos h3] at h2
      exact h2.symm
    have hq := hk
    unfold kindB at hq
    rw [if_pos hk3] at hq
    simp only [Bool.and_eq_true] at hq
    have e : pt (bodyT m) 6 = condT m.flt := by
      unfold bodyT
      rw [if_neg (by omega), if_neg (by omega), if_pos hk3]; rfl
    rw [e, rdF_cond _ m.flt 12 hq.2 (by omega) (Nat.le_refl _), rdC_cond _ m.flt 12 hq.2 (Nat.le_refl _)]
  · exact h
/-- a message, and whether there is one -/
def got (m : Mg) (ok : Bool) : Int × Int × List UInt8 × List UInt8 × Int × Int × Int × List UInt8 × List UInt8 × List (List D) × List (List D) × List (List D) × List (List D) × List UInt8 × List (List D) × List UInt8 × Bool × List UInt8 × Int × Int × Int × List UInt8 × List (List D) × Bool × Unit := (m.id, m.k, m.dn, m.val, m.scope, m.limit, m.flt.k, m.flt.t, m.flt.v, dSs m.flt.ps, dFs m.flt.ks, dSs m.types, dMs m.mods, m.edn, dAs m.attrs, m.rdn, m.old, m.typ, m.n, m.ofk, m.code, m.text, dSs m.refs, ok, ())
def rdN (t : Tlv) : Mg := idM (rdR (pt t 1)) (rdI (pt t 0).f1).1
theorem rdN_msg {m : Mg} (h : mayM m = true) : rdN (msgT m) = m := by
  unfold mayM at h
  simp only [Bool.and_eq_true, decide_eq_true_eq] at h
  have hid := h.1.1.1
  unfold withinB at hid
  simp only [Bool.and_eq_true, decide_eq_true_eq] at hid
  have e0 : (pt (msgT m) 0).f1 = strOfNums (intB 7 m.id) := rfl
  have e1 : pt (msgT m) 1 = bodyT m := rfl
  unfold rdN
  rw [e0, e1, rdR_body h.1.1.2 (eqB_iff.1 h.1.2), rdI_int hid.1 (by omega)]
  rfl
theorem rdN_sz (t : Tlv) : sG (rdN t) ≤ 20 * (wt t + lenW t) := by
  have h1 := rdR_sz (pt t 1)
  have h2 := pt_sz t 1
  have : sG (rdN t) = sG (rdR (pt t 1)) := rfl
  omega
section
variable {call : Oracle} {lp : Loops} (hW : Fix Tryz.prog hs call lp)
include hW
theorem rofT_eq (t : Tlv) (m : Mg) (ho : m.ofk = 0) : brookref19_done.l3 call lp 1 (tup t) (0, 0, [], [], 0, 0, 0, [], [], [], [], [], [], [], [], [], false, [], 0, 0, 0, [], [], ()) (tupM m) = some (tupM ⟨m.id, m.k, m.dn, m.val, m.scope, m.limit, m.flt, m.types, m.mods, m.edn, m.attrs, m.rdn, m.old, m.typ, m.n, ofT t.f0, m.code, m.text, m.refs⟩, ()) := by
  have st : ∀ (j o : Int), 1 ≤ j → j ≤ 8 → brookref19_done.l3 call lp j (tup t) (0, 0, [], [], 0, 0, 0, [], [], [], [], [], [], [], [], [], false, [], 0, 0, 0, [], [], ()) (tupM ⟨m.id, m.k, m.dn, m.val, m.scope, m.limit, m.flt, m.types, m.mods, m.edn, m.attrs, m.rdn, m.old, m.typ, m.n, o, m.code, m.text, m.refs⟩) = brookref19_done.l3 call lp (j + 1) (tup t) (0, 0, [], [], 0, 0, 0, [], [], [], [], [], [], [], [], [], false, [], 0, 0, 0, [], [], ()) (tupM ⟨m.id, m.k, m.dn, m.val, m.scope, m.limit, m.flt, m.types, m.mods, m.edn, m.attrs, m.rdn, m.old, m.typ, m.n, if doneK j = t.f0 then j else o, m.code, m.text, m.refs⟩) := by
    intro j o h0 h1
    rw [brookref19_done.l3.eq hW]
    simp only [Bool.cond_decide, rdone_eq hW, Option.bind_some]
    rw [if_pos h1, w64 (x := j + 1) (by omega) (by omega)]
    by_cases c : doneK j = t.f0
    · rw [if_pos c, if_pos c]
    · rw [if_neg c, if_neg c]
  have fin : ∀ o : Int, brookref19_done.l3 call lp 9 (tup t) (0, 0, [], [], 0, 0, 0, [], [], [], [], [], [], [], [], [], false, [], 0, 0, 0, [], [], ()) (tupM ⟨m.id, m.k, m.dn, m.val, m.scope, m.limit, m.flt, m.types, m.mods, m.edn, m.attrs, m.rdn, m.old, m.typ, m.n, o, m.code, m.text, m.refs⟩) = some (tupM ⟨m.id, m.k, m.dn, m.val, m.scope, m.limit, m.flt, m.types, m.mods, m.edn, m.attrs, m.rdn, m.old, m.typ, m.n, o, m.code, m.text, m.refs⟩, ()) := by
    intro o
    rw [brookref19_done.l3.eq hW]; rfl
  have e0 : tupM m = tupM ⟨m.id, m.k, m.dn, m.val, m.scope, m.limit, m.flt, m.types, m.mods, m.edn, m.attrs, m.rdn, m.old, m.typ, m.n, 0, m.code, m.text, m.refs⟩ := by
    cases m; simp only at ho; subst ho; rfl
  rw [e0, st 1 _ (by omega) (by omega), st (1 + 1) _ (by omega) (by omega), st (1 + 1 + 1) _ (by omega) (by omega), st (1 + 1 + 1 + 1) _ (by omega) (by omega), st (1 + 1 + 1 + 1 + 1) _ (by omega) (by omega), st (1 + 1 + 1 + 1 + 1 + 1) _ (by omega) (by omega), st (1 + 1 + 1 + 1 + 1 + 1 + 1) _ (by omega) (by omega), st (1 + 1 + 1 + 1 + 1 + 1 + 1 + 1) _ (by omega) (by omega)]
  simp only [Int.reduceAdd]
  rw [fin]
  have e : (if doneK 8 = t.f0 then 8 else if doneK 7 = t.f0 then 7 else if doneK 6 = t.f0 then 6 else if doneK 5 = t.f0 then 5 else if doneK 4 = t.f0 then 4 else if doneK 3 = t.f0 then 3 else if doneK 2 = t.f0 then 2 else if doneK 1 = t.f0 then 1 else (0 : Int)) = ofT t.f0 := by
    unfold ofT
    simp only [show doneK 1 = 97 from rfl, show doneK 2 = 0 from rfl, show doneK 3 = 101 from rfl, show doneK 4 = 103 from rfl, show doneK 5 = 105 from rfl, show doneK 6 = 107 from rfl, show doneK 7 = 109 from rfl, show doneK 8 = 111 from rfl]
    generalize t.f0 = x
    repeat (first | omega | split)
  rw [e]
theorem read_eq (t : Tlv) (hl : wt t ≤ 1073741824) : brookref19_read.f call (tup t) = some (tupM (rdR t), ()) := by
  have p1 := pt_sz t 1
  have p3 := pt_sz t 3
  have p6 := pt_sz t 6
  have p7 := pt_sz t 7
  have hc := rdF_eq hW _ (pt t 6) 12 (Nat.le_refl _) (by omega) (by omega) (by omega)
  have hs7 := strings_eq hW (pt t 7) (by omega)
  have hs3 := strings_eq hW (pt t 3) (by omega)
  have hm := rdMods_eq hW (pt t 1) (by omega)
  have ha := rdAtts_eq hW (pt t 1) (by omega)
  have hdone : brookref19_done.f call (tup t) = some (tupM ⟨0, 11, [], [], 0, 0, zF, [], [], [], [], [], false, [], 0, ofT t.f0, (rdI (pt t 0).f1).1, (pt t 2).f1, rdStrs (pt t 3)⟩, ()) := by
    rw [brookref19_done.eq hW]
    simp only [r0_eq hW, r2_eq hW, r3_eq hW, rrd_eq hW, hs3, Option.bind_some]
    exact rofT_eq hW t ⟨0, 11, [], [], 0, 0, zF, [], [], [], [], [], false, [], 0, 0, (rdI (pt t 0).f1).1, (pt t 2).f1, rdStrs (pt t 3)⟩ rfl
  rw [brookref19_read.eq hW]
  simp only [r0_eq hW, r1_eq hW, r2_eq hW, r3_eq hW, r6_eq hW, r7_eq hW, rrd_eq hW, hc, hs7, hm, ha, hdone, Option.bind_some]
  unfold rdR rdB
  unfold kindT
  by_cases c96 : t.f0 = 96
  · simp only [c96, decide_true, decide_false, Int.reduceEq, cond_true, cond_false, if_true, if_false]
    try rfl
  by_cases c66 : t.f0 = 66
  · simp only [c66, decide_true, decide_false, Int.reduceEq, cond_true, cond_false, if_true, if_false]
    try rfl
  by_cases c99 : t.f0 = 99
  · simp only [c99, decide_true, decide_false, Int.reduceEq, cond_true, cond_false, if_true, if_false]
    try rfl
  by_cases c102 : t.f0 = 102
  · simp only [c102, decide_true, decide_false, Int.reduceEq, cond_true, cond_false, if_true, if_false]
    try rfl
  by_cases c104 : t.f0 = 104
  · simp only [c104, decide_true, decide_false, Int.reduceEq, cond_true, cond_false, if_true, if_false]
    try rfl
  by_cases c74 : t.f0 = 74
  · simp only [c74, decide_true, decide_false, Int.reduceEq, cond_true, cond_false, if_true, if_false]
    try rfl
  by_cases c108 : t.f0 = 108
  · simp only [c108, decide_true, decide_false, Int.reduceEq, cond_true, cond_false, if_true, if_false]
    try rfl
  by_cases c110 : t.f0 = 110
  · simp only [c110, decide_true, decide_false, Int.reduceEq, cond_true, cond_false, if_true, if_false]
    try rfl
  by_cases c80 : t.f0 = 80
  · simp only [c80, decide_true, decide_false, Int.reduceEq, cond_true, cond_false, if_true, if_false]
    try rfl
  by_cases c100 : t.f0 = 100
  · simp only [c100, decide_true, decide_false, Int.reduceEq, cond_true, cond_false, if_true, if_false]
    try rfl
  simp only [c96, c66, c99, c102, c104, c74, c108, c110, c80, c100, Int.reduceEq, decide_false, cond_false, if_true, if_false]
  try rfl
theorem GetMsg_eq (s : List UInt8) (hs : s.length ≤ 2000000) : brookref19_GetMsg.f call s = some (if (parse 12 (bytesOf s)).1 = 0 ∧ (parse 12 (bytesOf s)).2.2 = s.length ∧ (parse 12 (bytesOf s)).2.1.f2.length = 2 ∧ s ≠ [] ∧ (if mayM (rdN (parse 12 (bytesOf s)).2.1) = true then strOfNums (enc (msgT (rdN (parse 12 (bytesOf s)).2.1))) else []) = s then (got (rdN (parse 12 (bytesOf s)).2.1) true, ()) else (got (zM 0 0) false, ())) := by
  obtain ⟨z1, z2⟩ := parse_sz s
  have z3 := rdN_sz (parse 12 (bytesOf s)).2.1
  have z4 := pt_sz (parse 12 (bytesOf s)).2.1 1
  have hno := parse_no 12 (bytesOf s)
  rw [brookref19_GetMsg.eq hW]
  have hg := GetTlv_in hW s (i := 0) (by omega) (by omega) (by omega)
  rw [Int.toNat_zero, List.drop_zero] at hg
  rw [hg]
  generalize parse 12 (bytesOf s) = p at *
  have e : rr (res 0 p) = ((p.2.1.f0, p.2.1.f1, dTs p.2.1.f2, (if p.1 = 0 then p.2.2 else 0), p.1, ()), ()) := by
    unfold res rr
    by_cases c : p.1 = 0
    · rw [if_pos c, if_pos c, c]; simp
    · rw [if_neg c, if_neg c, hno c]; rfl
  rw [e]
  simp only [Option.bind_some, orS, dTs_len]
  by_cases c : p.1 = 0
  · by_cases c2 : p.2.2 = s.length
    · by_cases c3 : p.2.1.f2.length = 2
      · have hi : (p.2.1.f2.length : Int) = 2 := by omega
        simp only [c, if_true, decide_true, Bool.not_true, hi, c2, Bool.or_self, cond_false]
        have i1 : ix 3 (dTs p.2.1.f2) 1 = some (dT (pt p.2.1 1)) := by
          have := ix_tlv p.2.1.f2 1 (by omega)
          rw [show ((1 : Nat) : Int) = 1 from rfl] at this
          rw [this]
          congr 2
          unfold pt
          rw [List.getD_eq_getElem?_getD, List.getElem?_eq_getElem (by omega)]; rfl
        have i0 : ix 3 (dTs p.2.1.f2) 0 = some (dT (pt p.2.1 0)) := by
          have := ix_tlv p.2.1.f2 0 (by omega)
          rw [show ((0 : Nat) : Int) = 0 from rfl] at this
          rw [this]
          congr 2
          unfold pt
          rw [List.getD_eq_getElem?_getD, List.getElem?_eq_getElem (by omega)]; rfl
        rw [i1, i0]
        simp only [Option.bind_some, dec_tlv, dec_s]
        rw [read_eq hW _ (by omega), rrd_eq hW]
        simp only [Option.bind_some]
        have hput := PutMsg_eq hW (rdN p.2.1) (by omega)
        have e2 : tupM (rdN p.2.1) = ((rdI (pt p.2.1 0).f1).1, (rdR (pt p.2.1 1)).k, (rdR (pt p.2.1 1)).dn, (rdR (pt p.2.1 1)).val, (rdR (pt p.2.1 1)).scope, (rdR (pt p.2.1 1)).limit, (rdR (pt p.2.1 1)).flt.k, (rdR (pt p.2.1 1)).flt.t, (rdR (pt p.2.1 1)).flt.v, dSs (rdR (pt p.2.1 1)).flt.ps, dFs (rdR (pt p.2.1 1)).flt.ks, dSs (rdR (pt p.2.1 1)).types, dMs (rdR (pt p.2.1 1)).mods, (rdR (pt p.2.1 1)).edn, dAs (rdR (pt p.2.1 1)).attrs, (rdR (pt p.2.1 1)).rdn, (rdR (pt p.2.1 1)).old, (rdR (pt p.2.1 1)).typ, (rdR (pt p.2.1 1)).n, (rdR (pt p.2.1 1)).ofk, (rdR (pt p.2.1 1)).code, (rdR (pt p.2.1 1)).text, dSs (rdR (pt p.2.1 1)).refs, ()) := rfl
        rw [← e2, hput]
        simp only [Option.bind_some]
        generalize (if mayM (rdN p.2.1) = true then strOfNums (enc (msgT (rdN p.2.1))) else []) = o
        by_cases c4 : o = s
        · by_cases c5 : s = []
          · simp only [c4, c5, decide_true, Bool.not_true, Bool.or_true, cond_true, ne_eq, not_true_eq_false, false_and, and_false, if_false]
            rfl
          · simp only [c3, c4, c5, decide_true, decide_false, Bool.not_true, Bool.or_self, cond_false, ne_eq, not_false_eq_true, and_self, if_true]
            rfl
        · simp only [c4, decide_false, Bool.not_false, Bool.true_or, cond_true, and_false, if_false]
          rfl
      · have hi : ¬ (p.2.1.f2.length : Int) = 2 := by omega
        simp only [hi, c3, decide_false, Bool.not_false, Bool.or_true, cond_true, false_and, and_false, if_false]
        rfl
    · simp only [c, if_true, c2, decide_true, decide_false, Bool.not_true, Bool.not_false, Bool.or_true, Bool.true_or, cond_true, false_and, and_false, if_false]
      rfl
  · simp only [c, decide_false, Bool.not_false, Bool.true_or, cond_true, false_and, if_false]
    rfl
theorem GetMsg_yes {s : List UInt8} {m : Mg} (h : Told s m) : brookref19_GetMsg.f call s = some (got m true, ()) := by
  have hl := told_len h
  have hp := told_parse h []
  rw [List.append_nil] at hp
  have hne : s ≠ [] := by intro e; subst e; simp at hl
  rw [GetMsg_eq hW s (by omega), hp]
  simp only [rdN_msg h.1]
  rw [if_pos ⟨trivial, trivial, rfl, hne, by rw [if_pos h.1]; exact h.2.symm⟩]
theorem GetMsg_no {s : List UInt8} (hs : s.length ≤ 2000000) (h : ∀ m, ¬ Told s m) : brookref19_GetMsg.f call s = some (got (zM 0 0) false, ()) := by
  rw [GetMsg_eq hW s hs, if_neg]
  rintro ⟨h1, h2, h3, hne, h4⟩
  exact h _ (put_told hne h4)
end
end Go.Proofs.YtcpidokhkcmdfaaGreat.B
