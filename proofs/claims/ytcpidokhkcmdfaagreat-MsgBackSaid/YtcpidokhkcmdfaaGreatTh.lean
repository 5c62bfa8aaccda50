/- Messages as package msg puts them; which may be. Conditions: those of each theorem. -/
import Derived.Test.YtcpidokhkcmdfaaGreatTg
namespace Go.Proofs.YtcpidokhkcmdfaaGreat.B
open Go Go.Proofs Go.Proofs.YtcpidokhkcmdfaaGreat.I
set_option linter.unusedVariables false
set_option linter.unusedSimpArgs false

set_option maxRecDepth 100000
def zF : Flt := ⟨0, [], [], [], []⟩
def zM (id k : Int) : Mg := ⟨id, k, [], [], 0, 0, zF, [], [], [], [], [], false, [], 0, 0, 0, [], []⟩
/-- a message without what its kind says -/
def bareM : Mg → Mg
  | ⟨id, k, dn, val, scope, limit, flt, types, mods, edn, attrs, rdn, old, typ, n, ofk, code, text, refs⟩ =>
    if k = 1 then ⟨0, k, [], [], scope, limit, flt, types, mods, edn, attrs, rdn, old, typ, n, ofk, code, text, refs⟩
    else if k = 3 then ⟨0, k, [], val, 0, 0, zF, [], mods, edn, attrs, rdn, old, typ, n, ofk, code, text, refs⟩
    else if k = 4 then ⟨0, k, [], val, scope, limit, flt, types, [], edn, attrs, rdn, old, typ, n, ofk, code, text, refs⟩
    else if k = 5 ∨ k = 10 then ⟨0, k, dn, val, scope, limit, flt, types, mods, [], [], rdn, old, typ, n, ofk, code, text, refs⟩
    else if k = 6 then ⟨0, k, [], val, scope, limit, flt, types, mods, edn, attrs, rdn, old, typ, n, ofk, code, text, refs⟩
    else if k = 7 then ⟨0, k, [], val, scope, limit, flt, types, mods, edn, attrs, [], false, typ, n, ofk, code, text, refs⟩
    else if k = 8 then ⟨0, k, [], [], scope, limit, flt, types, mods, edn, attrs, rdn, old, [], n, ofk, code, text, refs⟩
    else if k = 9 then ⟨0, k, dn, val, scope, limit, flt, types, mods, edn, attrs, rdn, old, typ, 0, ofk, code, text, refs⟩
    else if k = 11 then ⟨0, k, dn, val, scope, limit, flt, types, mods, edn, attrs, rdn, old, typ, n, 0, 0, [], []⟩
    else ⟨0, k, dn, val, scope, limit, flt, types, mods, edn, attrs, rdn, old, typ, n, ofk, code, text, refs⟩
/-- a message with what its kind says alone -/
def onlyM : Mg → Mg
  | ⟨id, k, dn, val, scope, limit, flt, types, mods, edn, attrs, rdn, old, typ, n, ofk, code, text, refs⟩ =>
    if k = 1 then ⟨id, k, dn, val, 0, 0, zF, [], [], [], [], [], false, [], 0, 0, 0, [], []⟩
    else if k = 3 then ⟨id, k, dn, [], scope, limit, flt, types, [], [], [], [], false, [], 0, 0, 0, [], []⟩
    else if k = 4 then ⟨id, k, dn, [], 0, 0, zF, [], mods, [], [], [], false, [], 0, 0, 0, [], []⟩
    else if k = 5 ∨ k = 10 then ⟨id, k, [], [], 0, 0, zF, [], [], edn, attrs, [], false, [], 0, 0, 0, [], []⟩
    else if k = 6 then ⟨id, k, dn, [], 0, 0, zF, [], [], [], [], [], false, [], 0, 0, 0, [], []⟩
    else if k = 7 then ⟨id, k, dn, [], 0, 0, zF, [], [], [], [], rdn, old, [], 0, 0, 0, [], []⟩
    else if k = 8 then ⟨id, k, dn, val, 0, 0, zF, [], [], [], [], [], false, typ, 0, 0, 0, [], []⟩
    else if k = 9 then ⟨id, k, [], [], 0, 0, zF, [], [], [], [], [], false, [], n, 0, 0, [], []⟩
    else if k = 11 then ⟨id, k, [], [], 0, 0, zF, [], [], [], [], [], false, [], 0, ofk, code, text, refs⟩
    else zM id k
def doneK (o : Int) : Int := if o = 1 then 97 else if o = 3 then 101 else if o = 4 then 103 else if o = 5 then 105 else if o = 6 then 107 else if o = 7 then 109 else if o = 8 then 111 else 0
def withinB (n most : Int) : Bool := decide (0 ≤ n) && decide (n ≤ most)
/-- is what a kind says as it should be? -/
def kindB (m : Mg) : Bool :=
  if m.k = 3 then withinB m.scope 2 && withinB m.limit 2147483647 && mayF m.flt 12
  else if m.k = 4 then !m.mods.any fun x => decide (x.k < 1) || decide (3 < x.k)
  else if m.k = 9 then withinB m.n 2147483647
  else if m.k = 11 then decide (0 < doneK m.ofk) && withinB m.code 200
  else decide (1 ≤ m.k) && decide (m.k ≤ 11)
abbrev modT (x : Mdf) : Tlv := nodeT 48 [numT 10 (x.k - 1), attrT x.t x.vs]
/-- what stands behind a message's number -/
def bodyT (m : Mg) : Tlv :=
  if m.k = 1 then nodeT 96 [numT 2 3, strT m.dn, leafT 128 m.val]
  else if m.k = 2 then leafT 66 []
  else if m.k = 3 then nodeT 99 [strT m.dn, numT 10 m.scope, numT 10 0, numT 2 m.limit, numT 2 0, isT false, condT m.flt, strsT 48 m.types]
  else if m.k = 4 then nodeT 102 [strT m.dn, nodeT 48 (m.mods.map modT)]
  else if m.k = 5 then entryT 104 m.edn m.attrs
  else if m.k = 6 then leafT 74 m.dn
  else if m.k = 7 then nodeT 108 [strT m.dn, strT m.rdn, isT m.old]
  else if m.k = 8 then nodeT 110 [strT m.dn, strsT 48 [m.typ, m.val]]
  else if m.k = 9 then numT 80 m.n
  else if m.k = 10 then entryT 100 m.edn m.attrs
  else nodeT (doneK m.ofk) ([numT 10 m.code, strT [], strT m.text] ++ if m.refs = [] then [] else [strsT 163 m.refs])
def msgT (m : Mg) : Tlv := nodeT 48 [numT 2 m.id, bodyT m]
theorem bare_only (m : Mg) (h0 : 1 ≤ m.k) (h1 : m.k ≤ 11) : bareM m = zM 0 m.k ↔ onlyM m = m := by
  obtain ⟨id, k, dn, val, scope, limit, flt, types, mods, edn, attrs, rdn, old, typ, n, ofk, code, text, refs⟩ := m
  simp only at h0 h1
  rcases (show k = 1 ∨ k = 2 ∨ k = 3 ∨ k = 4 ∨ k = 5 ∨ k = 6 ∨ k = 7 ∨ k = 8 ∨ k = 9 ∨ k = 10 ∨ k = 11 by omega) with rfl | rfl | rfl | rfl | rfl | rfl | rfl | rfl | rfl | rfl | rfl <;>
    simp only [bareM, onlyM, zM, Int.reduceEq, or_self, true_or, or_true, if_true, if_false, Mg.mk.injEq, true_and, and_true, @eq_comm Int 0, @eq_comm Flt zF, @eq_comm Bool false] <;> exact ⟨fun h => by simp_all, fun h => by simp_all⟩
section
variable {call : Oracle} {lp : Loops} (hW : Fix Tryz.prog hs call lp)
include hW
theorem within_eq (n most : Int) : msg_within.f call n most = some (withinB n most, ()) := by
  rw [msg_within.eq hW]
  simp only [andS, Option.bind_some]; rfl
theorem done_eq (o : Int) : msg_done.f call o = some (doneK o, ()) := by
  rw [msg_done.eq hW]
  unfold doneK
  simp only [Bool.cond_decide]
  repeat (first | rfl | split)
theorem bareM_eq (m : Mg) : msg_bare.f call (tupM m) = some (tupM (bareM m), ()) := by
  rw [msg_bare.eq hW]
  obtain ⟨id, k, dn, val, scope, limit, flt, types, mods, edn, attrs, rdn, old, typ, n, ofk, code, text, refs⟩ := m
  simp only [bareM]
  by_cases h1 : k = 1
  · subst h1
    simp only [decide_true, cond_true, Int.reduceEq, decide_false, cond_false, or_self, true_or, or_true, if_true, if_false]
    try rfl
  · skip
    by_cases h3 : k = 3
    · subst h3
      simp only [decide_true, cond_true, Int.reduceEq, decide_false, cond_false, or_self, true_or, or_true, if_true, if_false]
      try rfl
    · skip
      by_cases h4 : k = 4
      · subst h4
        simp only [decide_true, cond_true, Int.reduceEq, decide_false, cond_false, or_self, true_or, or_true, if_true, if_false]
        try rfl
      · skip
        by_cases h5 : k = 5
        · subst h5
          simp only [decide_true, cond_true, Int.reduceEq, decide_false, cond_false, or_self, true_or, or_true, if_true, if_false]
          try rfl
        · skip
          by_cases h6 : k = 6
          · subst h6
            simp only [decide_true, cond_true, Int.reduceEq, decide_false, cond_false, or_self, true_or, or_true, if_true, if_false]
            try rfl
          · skip
            by_cases h7 : k = 7
            · subst h7
              simp only [decide_true, cond_true, Int.reduceEq, decide_false, cond_false, or_self, true_or, or_true, if_true, if_false]
              try rfl
            · skip
              by_cases h8 : k = 8
              · subst h8
                simp only [decide_true, cond_true, Int.reduceEq, decide_false, cond_false, or_self, true_or, or_true, if_true, if_false]
                try rfl
              · skip
                by_cases h9 : k = 9
                · subst h9
                  simp only [decide_true, cond_true, Int.reduceEq, decide_false, cond_false, or_self, true_or, or_true, if_true, if_false]
                  try rfl
                · skip
                  by_cases h10 : k = 10
                  · subst h10
                    simp only [decide_true, cond_true, Int.reduceEq, decide_false, cond_false, or_self, true_or, or_true, if_true, if_false]
                    try rfl
                  · skip
                    by_cases h11 : k = 11
                    · subst h11
                      simp only [decide_true, cond_true, Int.reduceEq, decide_false, cond_false, or_self, true_or, or_true, if_true, if_false]
                      try rfl
                    · skip
                      simp only [h1, h3, h4, h5, h6, h7, h8, h9, h10, h11, decide_false, cond_false, or_self, if_false]
theorem modany_eq (l : List Mdf) (hl : l.length ≤ 1073741824) : slices_ContainsFunc_api_Mod_api_Mod.f call (dMs l) = some (l.any fun x => decide (x.k < 1) || decide (3 < x.k), ()) := by
  rw [slices_ContainsFunc_api_Mod_api_Mod.eq hW, slices_IndexFunc_api_Mod_api_Mod.eq hW, dMs_len]
  obtain ⟨r, h1, h2⟩ := loop_idx (L := fun i => slices_IndexFunc_api_Mod_api_Mod.l2 call lp (dMs l) (l.length : Int) i) (xs := l) (q := fun x => decide (x.k < 1) || decide (3 < x.k)) (mk := fun i => (i, ())) (fun j h => by
    rw [slices_IndexFunc_api_Mod_api_Mod.l2.eq hW]
    simp only [Bool.cond_decide]
    rw [if_pos (by omega), ix_mod l j h]
    simp only [Option.bind_some, dec_mod, msg_may_1.eq hW, orS]
    rw [w64 (x := (j : Int) + 1) (by omega) (by omega)]
    cases decide (l[j].k < 1) <;> cases decide (3 < l[j].k) <;> rfl) (by
    rw [slices_IndexFunc_api_Mod_api_Mod.l2.eq hW]
    simp only [Bool.cond_decide]
    rw [if_neg (by omega)])
  rw [h1]
  simp only [Option.bind_some, h2]
theorem kindB_eq (m : Mg) (hs : sG m ≤ 100000000) : msg_may.f call (tupM m) = some (kindB m, ()) := by
  unfold sG at hs
  have hl := sMs_len m.mods
  have hf := May_f hW m.flt (by omega)
  have e : tupF m.flt = (m.flt.k, m.flt.t, m.flt.v, dSs m.flt.ps, dFs m.flt.ks, ()) := rfl
  rw [e] at hf
  rw [msg_may.eq hW]
  simp only [within_eq hW, hf, modany_eq hW _ (show m.mods.length ≤ 1073741824 by omega), done_eq hW, Option.bind_some, andS]
  unfold kindB
  simp only [Bool.cond_decide]
  repeat (first | rfl | split)
end
end Go.Proofs.YtcpidokhkcmdfaaGreat.B
