/- What package msg puts, it reads again: filters, entries, bodies. Conditions: those of each theorem. -/
import Derived.Test.YtcpidokhkcmdfaaGreatTm
namespace Go.Proofs.YtcpidokhkcmdfaaGreat.B
open Go Go.Proofs Go.Proofs.YtcpidokhkcmdfaaGreat.I
set_option linter.unusedVariables false
set_option linter.unusedSimpArgs false
set_option maxRecDepth 100000
/-- the message that a tlv would be, without its number -/
def rdB (t : Tlv) : Mg :=
  if kindT t.f0 = 1 then ⟨0, 1, (pt t 1).f1, (pt t 2).f1, 0, 0, zF, [], [], [], [], [], false, [], 0, 0, 0, [], []⟩
  else if kindT t.f0 = 3 then ⟨0, 3, (pt t 0).f1, [], (rdI (pt t 1).f1).1, (rdI (pt t 3).f1).1, rdC (pt t 6), rdStrs (pt t 7), [], [], [], [], false, [], 0, 0, 0, [], []⟩
  else if kindT t.f0 = 4 then ⟨0, 4, (pt t 0).f1, [], 0, 0, zF, [], (pt t 1).f2.map rdMod, [], [], [], false, [], 0, 0, 0, [], []⟩
  else if kindT t.f0 = 5 then ⟨0, 5, [], [], 0, 0, zF, [], [], (pt t 0).f1, (pt t 1).f2.map rdAtt, [], false, [], 0, 0, 0, [], []⟩
  else if kindT t.f0 = 6 then ⟨0, 6, t.f1, [], 0, 0, zF, [], [], [], [], [], false, [], 0, 0, 0, [], []⟩
  else if kindT t.f0 = 7 then ⟨0, 7, (pt t 0).f1, [], 0, 0, zF, [], [], [], [], (pt t 1).f1, decide ((pt t 2).f1 = [255]), [], 0, 0, 0, [], []⟩
  else if kindT t.f0 = 8 then ⟨0, 8, (pt t 0).f1, (pt (pt t 1) 1).f1, 0, 0, zF, [], [], [], [], [], false, (pt (pt t 1) 0).f1, 0, 0, 0, [], []⟩
  else if kindT t.f0 = 9 then ⟨0, 9, [], [], 0, 0, zF, [], [], [], [], [], false, [], (rdI t.f1).1, 0, 0, [], []⟩
  else if kindT t.f0 = 10 then ⟨0, 10, [], [], 0, 0, zF, [], [], (pt t 0).f1, (pt t 1).f2.map rdAtt, [], false, [], 0, 0, 0, [], []⟩
  else if kindT t.f0 = 11 then ⟨0, 11, [], [], 0, 0, zF, [], [], [], [], [], false, [], 0, ofT t.f0, (rdI (pt t 0).f1).1, (pt t 2).f1, rdStrs (pt t 3)⟩
  else ⟨0, kindT t.f0, [], [], 0, 0, zF, [], [], [], [], [], false, [], 0, 0, 0, [], []⟩
def idM (m : Mg) (id : Int) : Mg := ⟨id, m.k, m.dn, m.val, m.scope, m.limit, m.flt, m.types, m.mods, m.edn, m.attrs, m.rdn, m.old, m.typ, m.n, m.ofk, m.code, m.text, m.refs⟩
theorem idM_self (m : Mg) : idM m m.id = m := rfl
/-! filters -/
theorem rdP_mid (n : Nat) : ∀ (mid : List (List UInt8)) (j : Nat) (out : List (List UInt8)) (rest : List Tlv), rdP n j out (mid.map (leafT 129) ++ rest) = rdP n (j + mid.length) (out ++ mid) rest
  | [], j, out, rest => by simp
  | s :: r, j, out, rest => by
    simp only [List.map_cons, List.cons_append, rdP]
    rw [if_neg (by simp), if_neg (by simp), rdP_mid n r (j + 1) _ rest]
    rw [List.length_cons, show j + 1 + r.length = j + (r.length + 1) by omega, List.append_assoc]
    rfl
theorem flat_mid (n : Nat) : ∀ (mid : List (List UInt8)) (j : Nat) (pl : List UInt8), 1 ≤ j → j + mid.length + 1 = n → (∀ s ∈ mid, s ≠ []) → flatI (partT n) j (mid ++ [pl]) = mid.map (leafT 129) ++ (if pl = [] then [] else [leafT 130 pl])
  | [], j, pl, hj, hn, _ => by
    simp only [List.length_nil] at hn
    simp only [List.nil_append, flatI, partT, List.map_nil, List.append_nil]
    by_cases c : pl = []
    · rw [if_pos c, if_pos c]
    · rw [if_neg c, if_neg c, if_neg (by omega), if_pos (by omega)]
  | s :: r, j, pl, hj, hn, h => by
    simp only [List.length_cons] at hn
    simp only [List.cons_append, flatI, List.map_cons]
    rw [flat_mid n r (j + 1) pl (by omega) (by omega) fun x hx => h x (List.mem_cons_of_mem _ hx)]
    have hs := h s (by simp)
    simp only [partT]
    rw [if_neg hs, if_neg (by omega), if_neg (by omega)]
    rfl
theorem parts_split {ps : List (List UInt8)} (h : mayP ps = true) : ∃ p0 mid pl, ps = p0 :: (mid ++ [pl]) ∧ ∀ s ∈ mid, s ≠ [] := by
  unfold mayP at h
  simp only [Bool.and_eq_true, decide_eq_true_eq] at h
  obtain ⟨⟨⟨h1, h2⟩, h3⟩, h4⟩ := h
  have hg := allI_get _ _ h4
  match ps, h1, hg with
  | p0 :: p1 :: r, _, hg =>
    refine ⟨p0, (p1 :: r).dropLast, (p1 :: r).getLast (by simp), by rw [List.dropLast_concat_getLast], fun s hs => ?_⟩
    obtain ⟨i, hi, rfl⟩ := List.mem_iff_getElem.1 hs
    rw [List.length_dropLast] at hi
    have := hg (i + 1) (by simp only [List.length_cons] at hi ⊢; omega)
    simp only [Nat.zero_add, Bool.and_eq_true, Bool.not_eq_true', Bool.and_eq_false_iff, decide_eq_true_eq, decide_eq_false_iff_not, List.length_cons] at this
    have e : (p0 :: p1 :: r)[i + 1]'(by simp only [List.length_cons] at hi ⊢; omega) = (p1 :: r).dropLast[i]'(by rw [List.length_dropLast]; omega) := by
      rw [List.getElem_dropLast]; rfl
    rw [e] at this
    rcases this.2 with (g | g) | g
    · exact g
    · omega
    · simp only [List.length_cons] at hi; omega
theorem rdP_parts {ps : List (List UInt8)} (h : mayP ps = true) : rdP (flatI (partT ps.length) 0 ps).length 0 [[]] (flatI (partT ps.length) 0 ps) = ps := by
  obtain ⟨p0, mid, pl, rfl, hm⟩ := parts_split h
  have hl : (p0 :: (mid ++ [pl])).length = mid.length + 2 := by simp
  rw [hl]
  have e : flatI (partT (mid.length + 2)) 0 (p0 :: (mid ++ [pl])) = (if p0 = [] then [] else [leafT 128 p0]) ++ (mid.map (leafT 129) ++ (if pl = [] then [] else [leafT 130 pl])) := by
    simp only [flatI]
    rw [flat_mid _ mid (0 + 1) pl (by omega) (by omega) hm]
    congr 1
  rw [e]
  have last : ∀ (n j : Nat) (out : List (List UInt8)), (pl ≠ [] → j + 1 = n) → rdP n j out (if pl = [] then [] else [leafT 130 pl]) = out ++ [pl] := by
    intro n j out hn
    by_cases c : pl = []
    · rw [if_pos c, c]; rfl
    · rw [if_neg c]
      simp only [rdP]
      have := hn c
      rw [if_neg (by simp), if_pos ⟨trivial, by omega⟩]
  by_cases c0 : p0 = []
  · subst c0
    rw [if_pos rfl, List.nil_append, rdP_mid, last]
    · simp
    · intro c
      rw [if_neg c]; simp
  · rw [if_neg c0]
    simp only [List.cons_append, List.nil_append, rdP]
    rw [if_pos ⟨trivial, rfl⟩, rdP_mid, last]
    · simp
    · intro c
      rw [if_neg c]; simp; omega
theorem rdC_cond : ∀ (n : Nat) (f : Flt) (d : Int), mayF f d = true → sF f ≤ n → rdC (condT f) = f := by
  intro n
  induction n with
  | zero => intro f d _ h; have := sF_pos f; omega
  | succ n ih =>
    intro f d hm hn
    have he := sF_eq f
    obtain ⟨k, t, v, ps, ks⟩ := f
    simp only at he
    have hkids : (∀ x ∈ ks, mayF x (d - 1) = true) → rdCs (condTs ks) = ks := by
      intro h
      have : ∀ l : List Flt, (∀ x ∈ l, mayF x (d - 1) = true) → (∀ x ∈ l, sF x ≤ n) → rdCs (condTs l) = l := by
        intro l
        induction l with
        | nil => intro _ _; rfl
        | cons x r ihl =>
          intro h1 h2
          simp only [condTs, rdCs]
          rw [ih x (d - 1) (h1 x (by simp)) (h2 x (by simp)), ihl (fun y hy => h1 y (List.mem_cons_of_mem _ hy)) fun y hy => h2 y (List.mem_cons_of_mem _ hy)]
      exact this ks h fun x hx => by have := sFs_mem _ _ hx; omega
    have len_nil : ∀ {α : Type} (l : List α), (l.length : Int) = 0 → l = [] := fun l h => List.eq_nil_of_length_eq_zero (by omega)
    simp only [mayF] at hm
    simp only [condT]
    by_cases h1 : k = 1 ∨ k = 2
    · rw [if_pos h1] at hm
      simp only [Bool.and_eq_true, decide_eq_true_eq, mayFs_all, List.all_eq_true] at hm
      rw [if_pos (by omega)]
      simp only [rdC]
      rw [if_pos (by omega), hkids fun x hx => hm.2 x hx, hm.1.1.1.1.1, hm.1.1.1.1.2, len_nil _ hm.1.1.1.2, show 159 + k - 159 = k by omega]
    · rw [if_neg h1] at hm
      by_cases h3 : k = 3
      · rw [if_pos h3] at hm
        simp only [Bool.and_eq_true, decide_eq_true_eq, mayFs_all, List.all_eq_true] at hm
        rw [if_pos (by omega)]
        simp only [rdC]
        rw [if_pos (by omega), hkids fun x hx => hm.2 x hx, hm.1.1.1.1.1, hm.1.1.1.1.2, len_nil _ hm.1.1.1.2, show 159 + k - 159 = k by omega]
      · rw [if_neg h3] at hm
        rw [if_neg (by omega)]
        by_cases h4 : k = 4 ∨ k = 6 ∨ k = 7
        · rw [if_pos h4] at hm
          simp only [Bool.and_eq_true, decide_eq_true_eq] at hm
          rw [len_nil _ hm.1.1.2, len_nil _ hm.1.2]
          rcases h4 with rfl | rfl | rfl
          · rw [if_pos rfl]; rfl
          · rw [if_neg (by omega), if_pos rfl]; rfl
          · rw [if_neg (by omega), if_neg (by omega), if_pos rfl]; rfl
        · rw [if_neg h4] at hm
          rw [if_neg (by omega), if_neg (by omega), if_neg (by omega)]
          by_cases h5 : k = 5
          · rw [if_pos h5] at hm
            simp only [Bool.and_eq_true, decide_eq_true_eq] at hm
            rw [if_neg (by omega), len_nil _ hm.1.1.2, hm.1.2, h5]
            simp only [rdC]
            rw [if_neg (by omega), if_neg (by omega), if_neg (by omega), if_neg (by omega), if_pos trivial]
            have := rdP_parts hm.2
            have e1 : (pt (nodeT 164 [strT t, nodeT 48 (flatI (partT ps.length) 0 ps)]) 1).f2 = flatI (partT ps.length) 0 ps := rfl
            have e0 : (pt (nodeT 164 [strT t, nodeT 48 (flatI (partT ps.length) 0 ps)]) 0).f1 = t := rfl
            simp only [e1, e0, this]
          · rw [if_neg h5] at hm
            by_cases h8 : k = 8
            · rw [if_pos h8] at hm
              simp only [Bool.and_eq_true, decide_eq_true_eq] at hm
              rw [if_pos h8, len_nil _ hm.1.1.2, hm.1.2, len_nil _ hm.2, h8]; rfl
            · rw [if_neg h8] at hm; cases hm
/-! entries, changes -/
theorem rdStrs_strs (tag : Int) (l : List (List UInt8)) : rdStrs (strsT tag l) = l := by
  show (l.map strT).map (·.f1) = l
  rw [List.map_map]
  conv => rhs; rw [← List.map_id l]
  exact List.map_congr_left fun _ _ => rfl
theorem rdAtt_attr (a : Att) : rdAtt (attrT a.t a.vs) = a := by
  unfold rdAtt attrT
  have e0 : (pt (nodeT 48 [strT a.t, strsT 49 a.vs]) 0).f1 = a.t := rfl
  have e1 : pt (nodeT 48 [strT a.t, strsT 49 a.vs]) 1 = strsT 49 a.vs := rfl
  rw [e0, e1, rdStrs_strs]
theorem rdAtts (l : List Att) : ((l.map fun a => attrT a.t a.vs).map rdAtt) = l := by
  rw [List.map_map]
  conv => rhs; rw [← List.map_id l]
  exact List.map_congr_left fun a _ => rdAtt_attr a
theorem rdMod_mod {x : Mdf} (h0 : 1 ≤ x.k) (h1 : x.k ≤ 3) : rdMod (modT x) = x := by
  unfold rdMod
  have e0 : (pt (modT x) 0).f1 = strOfNums (intB 7 (x.k - 1)) := rfl
  have e1 : pt (modT x) 1 = attrT x.t x.vs := rfl
  have e2 : (pt (attrT x.t x.vs) 0).f1 = x.t := rfl
  have e3 : pt (attrT x.t x.vs) 1 = strsT 49 x.vs := rfl
  rw [e0, e1, e2, e3, rdStrs_strs, rdI_int (by omega) (by omega)]
  simp only
  rw [w64 (by omega) (by omega), show x.k - 1 + 1 = x.k by omega]
theorem rdMods {l : List Mdf} (h : ∀ x ∈ l, 1 ≤ x.k ∧ x.k ≤ 3) : (l.map modT).map rdMod = l := by
  rw [List.map_map]
  conv => rhs; rw [← List.map_id l]
  exact List.map_congr_left fun a ha => rdMod_mod (h a ha).1 (h a ha).2
theorem ofT_done {o : Int} (h : 0 < doneK o) : ofT (doneK o) = o ∧ kindT (doneK o) = 11 := by
  unfold doneK at h ⊢
  by_cases h1 : o = 1
  · subst h1; exact ⟨rfl, rfl⟩
  · by_cases h2 : o = 3
    · subst h2; exact ⟨rfl, rfl⟩
    · by_cases h3 : o = 4
      · subst h3; exact ⟨rfl, rfl⟩
      · by_cases h4 : o = 5
        · subst h4; exact ⟨rfl, rfl⟩
        · by_cases h5 : o = 6
          · subst h5; exact ⟨rfl, rfl⟩
          · by_cases h6 : o = 7
            · subst h6; exact ⟨rfl, rfl⟩
            · by_cases h7 : o = 8
              · subst h7; exact ⟨rfl, rfl⟩
              · simp only [h1, h2, h3, h4, h5, h6, h7, if_false] at h; omega
/-- what stands behind a message's number says it again -/
theorem rdB_body {m : Mg} (hk : kindB m = true) (ho : onlyM m = m) : rdB (bodyT m) = idM m 0 := by
  have hb := kind_bd hk
  have hm4 := fun h => mods_kind hk h
  have hq := hk
  unfold kindB withinB at hq
  obtain ⟨id, k, dn, val, scope, limit, flt, types, mods, edn, attrs, rdn, old, typ, n, ofk, code, text, refs⟩ := m
  simp only at hb hm4 hq
  rcases (show k = 1 ∨ k = 2 ∨ k = 3 ∨ k = 4 ∨ k = 5 ∨ k = 6 ∨ k = 7 ∨ k = 8 ∨ k = 9 ∨ k = 10 ∨ k = 11 by omega) with rfl | rfl | rfl | rfl | rfl | rfl | rfl | rfl | rfl | rfl | rfl
  · simp only [onlyM, zM, Int.reduceEq, or_self, true_or, or_true, if_true, if_false] at ho
    cases ho
    rfl
  · simp only [onlyM, zM, Int.reduceEq, or_self, true_or, or_true, if_true, if_false] at ho
    cases ho
    rfl
  · simp only [onlyM, zM, Int.reduceEq, or_self, true_or, or_true, if_true, if_false] at ho
    cases ho
    simp only [Int.reduceEq, if_true, if_false, Bool.and_eq_true, decide_eq_true_eq] at hq
    have e1 := rdI_int (n := scope) (by omega) (by omega)
    have e2 := rdI_int (n := limit) (by omega) (by omega)
    have e3 := rdC_cond _ flt 12 hq.2 (Nat.le_refl _)
    show rdB (nodeT 99 [strT dn, numT 10 scope, numT 10 0, numT 2 limit, numT 2 0, isT false, condT flt, strsT 48 types]) = _
    unfold rdB
    simp only [show kindT 99 = 3 from rfl, Int.reduceEq, if_true, if_false]
    show (⟨0, 3, dn, [], (rdI (strOfNums (intB 7 scope))).1, (rdI (strOfNums (intB 7 limit))).1, rdC (condT flt), rdStrs (strsT 48 types), [], [], [], [], false, [], 0, 0, 0, [], []⟩ : Mg) = _
    rw [e1, e2, e3, rdStrs_strs]; rfl
  · simp only [onlyM, zM, Int.reduceEq, or_self, true_or, or_true, if_true, if_false] at ho
    cases ho
    show rdB (nodeT 102 [strT dn, nodeT 48 (mods.map modT)]) = _
    unfold rdB
    simp only [show kindT 102 = 4 from rfl, Int.reduceEq, if_true, if_false]
    show (⟨0, 4, dn, [], 0, 0, zF, [], (mods.map modT).map rdMod, [], [], [], false, [], 0, 0, 0, [], []⟩ : Mg) = _
    rw [rdMods (hm4 rfl)]; rfl
  · simp only [onlyM, zM, Int.reduceEq, or_self, true_or, or_true, if_true, if_false] at ho
    cases ho
    show rdB (entryT 104 edn attrs) = _
    unfold rdB entryT
    simp only [show kindT 104 = 5 from rfl, Int.reduceEq, if_true, if_false]
    show (⟨0, 5, [], [], 0, 0, zF, [], [], edn, (attrs.map fun a => attrT a.t a.vs).map rdAtt, [], false, [], 0, 0, 0, [], []⟩ : Mg) = _
    rw [rdAtts]; rfl
  · simp only [onlyM, zM, Int.reduceEq, or_self, true_or, or_true, if_true, if_false] at ho
    cases ho
    rfl
  · simp only [onlyM, zM, Int.reduceEq, or_self, true_or, or_true, if_true, if_false] at ho
    cases ho
    cases old <;> rfl
  · simp only [onlyM, zM, Int.reduceEq, or_self, true_or, or_true, if_true, if_false] at ho
    cases ho
    rfl
  · simp only [onlyM, zM, Int.reduceEq, or_self, true_or, or_true, if_true, if_false] at ho
    cases ho
    simp only [Int.reduceEq, if_true, if_false, Bool.and_eq_true, decide_eq_true_eq] at hq
    have e1 := rdI_int (n := n) (by omega) (by omega)
    show rdB (numT 80 n) = _
    unfold rdB numT
    simp only [show kindT 80 = 9 from rfl, Int.reduceEq, if_true, if_false]
    show (⟨0, 9, [], [], 0, 0, zF, [], [], [], [], [], false, [], (rdI (strOfNums (intB 7 n))).1, 0, 0, [], []⟩ : Mg) = _
    rw [e1]; rfl
  · simp only [onlyM, zM, Int.reduceEq, or_self, true_or, or_true, if_true, if_false] at ho
    cases ho
    show rdB (entryT 100 edn attrs) = _
    unfold rdB entryT
    simp only [show kindT 100 = 10 from rfl, Int.reduceEq, if_true, if_false]
    show (⟨0, 10, [], [], 0, 0, zF, [], [], edn, (attrs.map fun a => attrT a.t a.vs).map rdAtt, [], false, [], 0, 0, 0, [], []⟩ : Mg) = _
    rw [rdAtts]; rfl
  · simp only [onlyM, zM, Int.reduceEq, or_self, true_or, or_true, if_true, if_false] at ho
    cases ho
    simp only [Int.reduceEq, if_true, if_false, Bool.and_eq_true, decide_eq_true_eq] at hq
    obtain ⟨o1, o2⟩ := ofT_done hq.1
    have e1 := rdI_int (n := code) (by omega) (by omega)
    show rdB (nodeT (doneK ofk) ([numT 10 code, strT [], strT text] ++ if refs = [] then [] else [strsT 163 refs])) = _
    unfold rdB
    simp only [o2, Int.reduceEq, if_true, if_false]
    have e2 : ∀ l : List Tlv, (pt (nodeT (doneK ofk) ([numT 10 code, strT [], strT text] ++ l)) 0).f1 = strOfNums (intB 7 code) := fun _ => rfl
    have e3 : ∀ l : List Tlv, (pt (nodeT (doneK ofk) ([numT 10 code, strT [], strT text] ++ l)) 2).f1 = text := fun _ => rfl
    have e4 : rdStrs (pt (nodeT (doneK ofk) ([numT 10 code, strT [], strT text] ++ if refs = [] then [] else [strsT 163 refs])) 3) = refs := by
      by_cases c : refs = []
      · rw [if_pos c, c]; rfl
      · rw [if_neg c]; exact rdStrs_strs 163 refs
    rw [e2, e3, e4, o1, e1]; rfl
end Go.Proofs.YtcpidokhkcmdfaaGreat.B
