/- The reference's messages: which may be, their bytes: the same. Conditions: those of each theorem. -/
import Derived.Test.YtcpidokhkcmdfaaGreatTj
namespace Go.Proofs.YtcpidokhkcmdfaaGreat.B
open Go Go.Proofs Go.Proofs.YtcpidokhkcmdfaaGreat.I
set_option linter.unusedVariables false
set_option linter.unusedSimpArgs false
set_option maxRecDepth 100000
theorem only_sz (m : Mg) : sG (onlyM m) ≤ sG m := by
  obtain ⟨id, k, dn, val, scope, limit, flt, types, mods, edn, attrs, rdn, old, typ, n, ofk, code, text, refs⟩ := m
  have := sF_pos flt
  have hz : sF zF = 1 := rfl
  simp only [onlyM, zM]
  repeat (first | split | (simp only [sG, List.length_nil, sS, sMs, sAs, hz]; omega))
theorem loop_no {α β : Type} {L : Int → Option β} {xs : List α} {p : Nat → α → Bool} {no : β} (hstep : ∀ (j : Nat) (h : j < xs.length), L j = if p j xs[j] = true then L ((j : Int) + 1) else some no) (hno : allI p 0 xs = false) : L 0 = some no := by
  have key : ∀ (m j : Nat), xs.length - j ≤ m → j ≤ xs.length → allI p j (xs.drop j) = false → L j = some no := by
    intro m
    induction m with
    | zero =>
      intro j h1 h2 h3
      obtain rfl : j = xs.length := by omega
      rw [List.drop_length] at h3; cases h3
    | succ m ih =>
      intro j h1 h2 h3
      by_cases h : j < xs.length
      · rw [hstep j h]
        rw [List.drop_eq_getElem_cons h] at h3
        simp only [allI] at h3
        cases hp : p j xs[j] with
        | false => rfl
        | true =>
          rw [hp, Bool.true_and] at h3
          rw [if_pos rfl]
          exact ih (j + 1) (by omega) (by omega) h3
      · obtain rfl : j = xs.length := by omega
        rw [List.drop_length] at h3; cases h3
  exact key xs.length 0 (by omega) (by omega) (by simpa using hno)
section
variable {call : Oracle} {lp : Loops} (hW : Fix Tryz.prog hs call lp)
include hW
theorem rwithin_eq (n most : Int) : brookref19_within.f call n most = some (withinB n most, ()) := by
  rw [brookref19_within.eq hW]
  simp only [andS, Option.bind_some]; rfl
theorem rdone_eq (o : Int) : brookref19_dones.f call o = some (doneK o, ()) := by
  rw [brookref19_dones.eq hW]
  unfold doneK
  simp only [Bool.cond_decide]
  repeat (first | rfl | split)
theorem onlyM_eq (m : Mg) : brookref19_only.f call (tupM m) = some (tupM (onlyM m), ()) := by
  rw [brookref19_only.eq hW]
  obtain ⟨id, k, dn, val, scope, limit, flt, types, mods, edn, attrs, rdn, old, typ, n, ofk, code, text, refs⟩ := m
  simp only [onlyM]
  by_cases h1 : k = 1
  · subst h1
    simp only [decide_true, cond_true, Int.reduceEq, decide_false, cond_false, or_self, true_or, or_true, if_true, if_false]
    try rfl
  · skip
    by_cases h3 : k = 3
    · subst h3
      simp only [decide_true, cond_true, Int.reduceEq, decide_false, cond_false, or_self, true_or, or_true, if_true, if_false]
      try rfl
    · skip
      by_cases h4 : k = 4
      · subst h4
        simp only [decide_true, cond_true, Int.reduceEq, decide_false, cond_false, or_self, true_or, or_true, if_true, if_false]
        try rfl
      · skip
        by_cases h5 : k = 5
        · subst h5
          simp only [decide_true, cond_true, Int.reduceEq, decide_false, cond_false, or_self, true_or, or_true, if_true, if_false]
          try rfl
        · skip
          by_cases h6 : k = 6
          · subst h6
            simp only [decide_true, cond_true, Int.reduceEq, decide_false, cond_false, or_self, true_or, or_true, if_true, if_false]
            try rfl
          · skip
            by_cases h7 : k = 7
            · subst h7
              simp only [decide_true, cond_true, Int.reduceEq, decide_false, cond_false, or_self, true_or, or_true, if_true, if_false]
              try rfl
            · skip
              by_cases h8 : k = 8
              · subst h8
                simp only [decide_true, cond_true, Int.reduceEq, decide_false, cond_false, or_self, true_or, or_true, if_true, if_false]
                try rfl
              · skip
                by_cases h9 : k = 9
                · subst h9
                  simp only [decide_true, cond_true, Int.reduceEq, decide_false, cond_false, or_self, true_or, or_true, if_true, if_false]
                  try rfl
                · skip
                  by_cases h11 : k = 11
                  · subst h11
                    simp only [decide_true, cond_true, Int.reduceEq, decide_false, cond_false, or_self, true_or, or_true, if_true, if_false]
                    try rfl
                  · skip
                    by_cases h10 : k = 10
                    · subst h10
                      simp only [decide_true, cond_true, Int.reduceEq, decide_false, cond_false, or_self, true_or, or_true, if_true, if_false]
                      try rfl
                    · skip
                      simp only [h1, h3, h4, h5, h6, h7, h8, h9, h11, h10, decide_false, cond_false, or_self, if_false]
                      try rfl
theorem rmods_eq (l : List Mdf) (hl : sMs l ≤ 1073741824) (hall : ∀ x ∈ l, 1 ≤ x.k ∧ x.k ≤ 3) : brookref19_mods.f call (dMs l) = some (tup (nodeT 48 (l.map modT)), ()) := by
  have hln := sMs_len l
  rw [brookref19_mods.eq hW]
  have := loop_map (L := fun i acc => brookref19_mods.l3 call lp (dMs l) i (0, [], [], ()) (dTs acc)) (xs := l) (f := modT) (e := fun acc => (tup (nodeT 48 acc), ())) (fun j h acc ha => by
    have h1 := sMs_mem _ _ (List.getElem_mem h)
    have h2 := sS_len l[j].vs
    have h3 := hall _ (List.getElem_mem h)
    have d1 : ∀ m : Mdf, decs [.int .i64] (sub (dM m) 0 1) = some (m.k, ()) := fun _ => rfl
    have d2 : ∀ m : Mdf, decs [.str] (sub (dM m) 1 1) = some (m.t, ()) := fun _ => rfl
    have d3 : ∀ m : Mdf, decs [.list] (sub (dM m) 2 1) = some (dSs m.vs, ()) := fun _ => rfl
    rw [brookref19_mods.l3.eq hW]
    simp only [Bool.cond_decide, dMs_len]
    rw [if_pos (by omega), ix_mod l j h]
    simp only [Option.bind_some, d1, d2, d3]
    rw [w64 (x := l[j].k - 1) (by omega) (by omega), renum_eq hW _ (by omega) (by omega), rattr_eq hW ⟨l[j].t, l[j].vs⟩ (by simp only; omega)]
    simp only [Option.bind_some]
    rw [dTs_2 (numT 10 (l[j].k - 1)) (attrT l[j].t l[j].vs), node_eq hW]
    simp only [Option.bind_some]
    rw [app_tlv acc (modT l[j]) (by omega), w64 (x := (j : Int) + 1) (by omega) (by omega)]
    rfl) (fun acc ha => by
    rw [brookref19_mods.l3.eq hW]
    simp only [Bool.cond_decide, dMs_len]
    rw [if_neg (by omega), node_eq hW]
    rfl)
  exact this
omit hW in
theorem mods_kind {m : Mg} (hk : kindB m = true) (h4 : m.k = 4) : ∀ x ∈ m.mods, 1 ≤ x.k ∧ x.k ≤ 3 := by
  unfold kindB at hk
  rw [if_neg (by omega), if_pos h4] at hk
  intro x hx
  have : (m.mods.any fun x => decide (x.k < 1) || decide (3 < x.k)) = false := by simpa using hk
  rw [List.any_eq_false] at this
  have := this x hx
  simp at this
  omega
theorem op_eq (m : Mg) (hk : kindB m = true) (hs : sG m ≤ 100000000) : brookref19_op.f call (tupM m) = some (tup (bodyT m), ()) := by
  have hs0 := hs
  unfold sG at hs
  have ht := sS_len m.types
  have hr := sS_len m.refs
  have hattrs := rattrs_eq hW m.attrs (by omega)
  have htypes := rtexts_eq hW m.types (by omega)
  have hrefs := rtexts_eq hW m.refs (by omega)
  have hz := renum_eq hW 0 (by omega) (by omega)
  have hz2 := rnum_eq hW 0 (by omega) (by omega)
  have h3n := rnum_eq hW 3 (by omega) (by omega)
  rw [brookref19_op.eq hW]
  simp only [leaf_eq hW, rtext_eq hW, rtruth_eq hW, rdone_eq hW, hattrs, htypes, hrefs, hz, hz2, h3n, rpair_eq hW, node_eq hW, Option.bind_some, dMs_len, dSs_len]
  have hb := kind_bd hk
  have hq := hk
  unfold kindB at hq
  unfold bodyT
  by_cases h1 : m.k = 1
  · simp only [h1, decide_true, cond_true, if_true]
    rw [dTs_3 (numT 2 3) (strT m.dn) (leafT 128 m.val), node_eq hW]; rfl
  · by_cases h2 : m.k = 2
    · simp only [h2, Int.reduceEq, decide_true, decide_false, cond_true, cond_false, if_true, if_false]
    · by_cases h3 : m.k = 3
      · rw [if_pos h3] at hq
        unfold withinB at hq
        simp only [Bool.and_eq_true, decide_eq_true_eq] at hq
        have hf := rcond_eq hW _ m.flt 12 hq.2 (Nat.le_refl _) (by omega)
        have e : tupF m.flt = (m.flt.k, m.flt.t, m.flt.v, dSs m.flt.ps, dFs m.flt.ks, ()) := rfl
        rw [e] at hf
        rw [renum_eq hW m.scope (by omega) (by omega), rnum_eq hW m.limit (by omega) (by omega), hf]
        simp only [h3, Int.reduceEq, decide_true, decide_false, cond_true, cond_false, if_true, if_false, Option.bind_some]
        rw [dTs_8 (strT m.dn) (numT 10 m.scope) (numT 10 0) (numT 2 m.limit) (numT 2 0) (isT false) (condT m.flt) (nodeT 48 (m.types.map strT)), node_eq hW]
        rfl
      · by_cases h4 : m.k = 4
        · have := rmods_eq hW m.mods (by omega) (mods_kind hk h4)
          rw [this]
          simp only [h4, Int.reduceEq, decide_true, decide_false, cond_true, cond_false, if_true, if_false, Option.bind_some]
          rw [dTs_2 (strT m.dn) (nodeT 48 (m.mods.map modT)), node_eq hW]
          rfl
        · by_cases h5 : m.k = 5
          · simp only [h5, Int.reduceEq, decide_true, decide_false, cond_true, cond_false, if_true, if_false]
            rw [dTs_2 (strT m.edn) (attsT m.attrs), node_eq hW]
            rfl
          · by_cases h6 : m.k = 6
            · simp only [h6, Int.reduceEq, decide_true, decide_false, cond_true, cond_false, if_true, if_false]
            · by_cases h7 : m.k = 7
              · simp only [h7, Int.reduceEq, decide_true, decide_false, cond_true, cond_false, if_true, if_false]
                rw [dTs_3 (strT m.dn) (strT m.rdn) (isT m.old), node_eq hW]; rfl
              · by_cases h8 : m.k = 8
                · simp only [h8, Int.reduceEq, decide_true, decide_false, cond_true, cond_false, if_true, if_false]
                  rw [dTs_2 (strT m.dn) (nodeT 48 [strT m.typ, strT m.val]), node_eq hW]; rfl
                · by_cases h9 : m.k = 9
                  · rw [if_neg h3, if_neg h4, if_pos h9] at hq
                    unfold withinB at hq
                    simp only [Bool.and_eq_true, decide_eq_true_eq] at hq
                    rw [rInt_eq hW m.n (by omega) (by omega)]
                    simp only [h9, Int.reduceEq, decide_true, decide_false, cond_true, cond_false, if_true, if_false, Option.bind_some, leaf_eq hW]
                    rfl
                  · by_cases h10 : m.k = 10
                    · simp only [h10, Int.reduceEq, decide_true, decide_false, cond_true, cond_false, if_true, if_false]
                      rw [dTs_2 (strT m.edn) (attsT m.attrs), node_eq hW]
                      rfl
                    · have h11 : m.k = 11 := by omega
                      rw [if_neg h3, if_neg h4, if_neg h9, if_pos h11] at hq
                      unfold withinB at hq
                      simp only [Bool.and_eq_true, decide_eq_true_eq] at hq
                      rw [renum_eq hW m.code (by omega) (by omega)]
                      simp only [h1, h2, h3, h4, h5, h6, h7, h8, h9, h10, decide_false, cond_false, if_false, Option.bind_some, Bool.cond_decide]
                      rw [dTs_3 (numT 10 m.code) (strT []) (strT m.text)]
                      by_cases c : m.refs = []
                      · rw [if_neg (by rw [c]; simp), if_pos c, node_eq hW]; rfl
                      · rw [if_pos (by have := List.length_pos_iff.2 c; omega), if_neg c]
                        rw [app_tlv [numT 10 m.code, strT [], strT m.text] (nodeT 163 (m.refs.map strT)) (by simp)]
                        simp only [Option.bind_some, node_eq hW]
                        rfl
omit hW in
theorem only_n {m : Mg} (h : onlyM m = m) (h9 : m.k ≠ 9) : m.n = 0 := by
  obtain ⟨id, k, dn, val, scope, limit, flt, types, mods, edn, attrs, rdn, old, typ, n, ofk, code, text, refs⟩ := m
  simp only at h9
  simp only [onlyM, zM] at h
  repeat (first | exact (congrArg Mg.n h).symm | (rename_i h2; exact absurd h2 h9) | split at h)
omit hW in
theorem only_mods {m : Mg} (h : onlyM m = m) (h4 : m.k ≠ 4) : m.mods = [] := by
  obtain ⟨id, k, dn, val, scope, limit, flt, types, mods, edn, attrs, rdn, old, typ, n, ofk, code, text, refs⟩ := m
  simp only at h4
  simp only [onlyM, zM] at h
  repeat (first | exact (congrArg Mg.mods h).symm | (rename_i h2; exact absurd h2 h4) | split at h)
omit hW in
theorem done_bd (o : Int) : 0 ≤ doneK o := by unfold doneK; repeat (first | omega | split)
theorem mayLoop_no (m : Mg) (hs : sG m ≤ 100000000) (hm : m.mods.all (fun x => decide (1 ≤ x.k) && decide (x.k ≤ 3)) = false) : brookref19_MayMsg.l6 call lp 0 (tupM m) = some (false, ()) := by
  unfold sG at hs
  have hln := sMs_len m.mods
  exact loop_no (L := fun i => brookref19_MayMsg.l6 call lp i (tupM m)) (xs := m.mods) (p := fun _ x => decide (1 ≤ x.k) && decide (x.k ≤ 3)) (no := (false, ())) (fun j h => by
    rw [brookref19_MayMsg.l6.eq hW]
    simp only [dMs_len]
    rw [decide_eq_true (show (j : Int) < (m.mods.length : Int) by omega), cond_true, ix_mod m.mods j h]
    have d1 : ∀ m : Mdf, decs [.int .i64] (sub (dM m) 0 1) = some (m.k, ()) := fun _ => rfl
    simp only [Option.bind_some, d1, orS]
    rw [w64 (x := (j : Int) + 1) (by omega) (by omega), le_not' 1, le_not' _ 3]
    cases decide (m.mods[j].k < 1) <;> cases decide (3 < m.mods[j].k) <;> rfl) (by rw [allI_all]; exact hm)
theorem mayLoop (m : Mg) (hs : sG m ≤ 100000000) (hid : withinB m.id 2147483647 = true) (hk : m.mods.all (fun x => decide (1 ≤ x.k) && decide (x.k ≤ 3)) = true → kindB m = true) :
    brookref19_MayMsg.l6 call lp 0 (tupM m) = some (m.mods.all (fun x => decide (1 ≤ x.k) && decide (x.k ≤ 3)) && decide (0 ≤ lenS 12 (msgT m)), ()) := by
  have hs0 := hs
  unfold sG at hs
  have hln := sMs_len m.mods
  cases hm : m.mods.all (fun x => decide (1 ≤ x.k) && decide (x.k ≤ 3)) with
  | true =>
    have hk := hk hm
    have := loop_all (L := fun i => brookref19_MayMsg.l6 call lp i (tupM m)) (xs := m.mods) (p := fun _ x => decide (1 ≤ x.k) && decide (x.k ≤ 3)) (yes := (decide (0 ≤ lenS 12 (msgT m)), ())) (no := (false, ())) (fun j h => by
      rw [brookref19_MayMsg.l6.eq hW]
      simp only [dMs_len]
      rw [decide_eq_true (show (j : Int) < (m.mods.length : Int) by omega), cond_true, ix_mod m.mods j h]
      have d1 : ∀ m : Mdf, decs [.int .i64] (sub (dM m) 0 1) = some (m.k, ()) := fun _ => rfl
      simp only [Option.bind_some, d1, orS]
      rw [w64 (x := (j : Int) + 1) (by omega) (by omega), le_not' 1, le_not' _ 3]
      cases decide (m.mods[j].k < 1) <;> cases decide (3 < m.mods[j].k) <;> rfl) (by
      rw [brookref19_MayMsg.l6.eq hW]
      simp only [Bool.cond_decide, dMs_len]
      rw [if_neg (by omega)]
      unfold withinB at hid
      simp only [Bool.and_eq_true, decide_eq_true_eq] at hid
      obtain ⟨w1, w2⟩ := msg_sz m hs0
      rw [rnum_eq hW m.id (by omega) (by omega), op_eq hW m hk hs0]
      simp only [Option.bind_some]
      rw [dTs_2 (numT 2 m.id) (bodyT m), node_eq hW]
      simp only [Option.bind_some]
      have e : msgT m = nodeT 48 [numT 2 m.id, bodyT m] := by unfold msgT; exact rfl
      rw [e] at w1 w2 ⊢
      rw [MayTlv_eq hW _ w1 w2]
      rfl)
    rw [this, allI_all, hm]; rfl
  | false =>
    rw [mayLoop_no hW m hs0 hm]; rfl
omit hW in
theorem within0 : withinB 0 2147483647 = true := rfl
omit hW in
theorem mods_any (l : List Mdf) : (!l.any fun x => decide (x.k < 1) || decide (3 < x.k)) = l.all fun x => decide (1 ≤ x.k) && decide (x.k ≤ 3) := by
  rw [List.not_any_eq_all_not]
  congr 1
  funext x
  rw [Bool.not_or, le_not' 1, le_not' x.k 3]
theorem MayMsg_eq (m : Mg) (hs : sG m ≤ 100000000) : brookref19_MayMsg.f call (tupM m) = some (mayM m, ()) := by
  have hf := MayFilter_f hW m.flt (by unfold sG at hs; omega)
  have e : tupF m.flt = (m.flt.k, m.flt.t, m.flt.v, dSs m.flt.ps, dFs m.flt.ks, ()) := rfl
  rw [e] at hf
  rw [brookref19_MayMsg.eq hW, rwithin_eq hW, onlyM_eq hW]
  simp only [Option.bind_some]
  rw [SameMsg_eq hW (onlyM m) m (by have := only_sz m; omega), hf]
  simp only [rwithin_eq hW, rdone_eq hW, Option.bind_some, bind_id, orS]
  unfold mayM
  by_cases hk1 : m.k < 1
  · have : kindB m = false := by
      cases h : kindB m with
      | false => rfl
      | true => have := kind_bd h; omega
    rw [decide_eq_true hk1, this]
    simp
  · by_cases hk11 : 11 < m.k
    · have : kindB m = false := by
        cases h : kindB m with
        | false => rfl
        | true => have := kind_bd h; omega
      rw [decide_eq_false hk1, decide_eq_true hk11, this]
      simp
    · rw [decide_eq_false hk1, decide_eq_false hk11]
      simp only [cond_false]
      cases hid : withinB m.id 2147483647 with
      | false => rfl
      | true =>
        cases ho : eqB (onlyM m) m with
        | false => simp
        | true =>
          have ho := eqB_iff.1 ho
          have hn : m.k ≠ 9 → withinB m.n 2147483647 = true := fun h => by rw [only_n ho h]; rfl
          have hml : m.k ≠ 4 → m.mods.all (fun x => decide (1 ≤ x.k) && decide (x.k ≤ 3)) = true := fun h => by rw [only_mods ho h]; rfl
          simp only [Bool.not_true, cond_false, Bool.true_and, Bool.and_true]
          by_cases h3 : m.k = 3
          · have hkb : kindB m = (withinB m.scope 2 && withinB m.limit 2147483647 && mayF m.flt 12) := by unfold kindB; rw [if_pos h3]
            rw [hn (by omega)]
            simp only [h3, decide_true, cond_true, Int.reduceEq, decide_false, cond_false, Option.bind_some, Bool.not_true, Bool.or_false, orS]
            cases hk : kindB m with
            | true =>
              rw [hk] at hkb
              have hkb := hkb.symm
              simp only [Bool.and_eq_true] at hkb
              rw [hkb.1.1, hkb.1.2, hkb.2]
              simp only [Bool.not_true, Bool.or_self, cond_false]
              rw [mayLoop hW m hs hid (fun _ => hk), hml (by omega)]
            | false =>
              rw [hk] at hkb
              cases a : withinB m.scope 2 <;> cases b : withinB m.limit 2147483647 <;> cases c : mayF m.flt 12 <;> rw [a, b, c] at hkb <;> first | rfl | cases hkb
          · by_cases h11 : m.k = 11
            · have hkb : kindB m = (decide (0 < doneK m.ofk) && withinB m.code 200) := by unfold kindB; rw [if_neg h3, if_neg (by omega), if_neg (by omega), if_pos h11]
              have hd : decide (0 < doneK m.ofk) = !decide (doneK m.ofk = 0) := by
                rw [← decide_not]; have := done_bd m.ofk; exact decide_eq_decide.2 (by omega)
              rw [hn (by omega)]
              simp only [h11, decide_true, cond_true, Int.reduceEq, decide_false, cond_false, Option.bind_some, Bool.not_true, Bool.or_false, Bool.false_or, orS]
              cases hk : kindB m with
              | true =>
                rw [hk, hd] at hkb
                have hkb := hkb.symm
                simp only [Bool.and_eq_true, Bool.not_eq_true'] at hkb
                rw [hkb.1, hkb.2]
                simp only [Bool.not_true, Bool.or_self, cond_false]
                rw [mayLoop hW m hs hid (fun _ => hk), hml (by omega)]
              | false =>
                rw [hk, hd] at hkb
                cases a : decide (doneK m.ofk = 0) <;> cases b : withinB m.code 200 <;> rw [a, b] at hkb <;> first | rfl | cases hkb
            · simp only [h3, h11, decide_false, cond_false, Option.bind_some, Bool.or_false, Bool.false_or]
              by_cases h9 : m.k = 9
              · have hkb : kindB m = withinB m.n 2147483647 := by unfold kindB; rw [if_neg h3, if_neg (by omega), if_pos h9]
                cases hk : kindB m with
                | true =>
                  rw [← hkb, hk]
                  simp only [Bool.not_true, cond_false]
                  rw [mayLoop hW m hs hid (fun _ => hk), hml (by omega)]; rfl
                | false => rw [← hkb, hk]; rfl
              · rw [hn h9]
                simp only [Bool.not_true, cond_false]
                by_cases h4 : m.k = 4
                · have hkb : kindB m = m.mods.all (fun x => decide (1 ≤ x.k) && decide (x.k ≤ 3)) := by unfold kindB; rw [if_neg h3, if_pos h4, mods_any]
                  rw [mayLoop hW m hs hid (fun h => by rw [hkb]; exact h), hkb]; rfl
                · have hk : kindB m = true := by
                    unfold kindB
                    rw [if_neg h3, if_neg h4, if_neg h9, if_neg h11, decide_eq_true (show 1 ≤ m.k by omega), decide_eq_true (show m.k ≤ 11 by omega)]; rfl
                  rw [mayLoop hW m hs hid (fun _ => hk), hml h4, hk]; rfl
theorem PutMsg_eq (m : Mg) (hs : sG m ≤ 100000000) : brookref19_PutMsg.f call (tupM m) = some (if mayM m = true then strOfNums (enc (msgT m)) else [], ()) := by
  rw [brookref19_PutMsg.eq hW, MayMsg_eq hW m hs]
  simp only [Option.bind_some]
  cases h : mayM m with
  | false => rfl
  | true =>
    unfold mayM at h
    simp only [Bool.and_eq_true, decide_eq_true_eq] at h
    have hid := h.1.1.1
    unfold withinB at hid
    simp only [Bool.and_eq_true, decide_eq_true_eq] at hid
    obtain ⟨w1, w2⟩ := msg_sz m hs
    simp only [Bool.not_true, cond_false, if_true]
    rw [rnum_eq hW m.id (by omega) (by omega), op_eq hW m h.1.1.2 hs]
    simp only [Option.bind_some]
    rw [dTs_2 (numT 2 m.id) (bodyT m), node_eq hW]
    simp only [Option.bind_some]
    have hl := h.2
    have e : msgT m = nodeT 48 [numT 2 m.id, bodyT m] := by unfold msgT; exact rfl
    rw [e] at w1 w2 hl ⊢
    rw [PutTlv_eq hW _ w1 w2, if_pos hl]
    rfl
end
end Go.Proofs.YtcpidokhkcmdfaaGreat.B
