/- Package msg puts messages: their bytes. Conditions: those of each theorem. -/
import Derived.Test.YtcpidokhkcmdfaaGreatTh
namespace Go.Proofs.YtcpidokhkcmdfaaGreat.B
open Go Go.Proofs Go.Proofs.YtcpidokhkcmdfaaGreat.I
set_option linter.unusedVariables false
set_option linter.unusedSimpArgs false
set_option maxRecDepth 100000
/-! how large the tlvs are -/
theorem wt_leaf (tag : Int) (s : List UInt8) : wt (leafT tag s) = 1 := rfl
theorem wt_node (tag : Int) (l : List Tlv) : wt (nodeT tag l) = 1 + wts l := rfl
theorem lenW_leaf (tag : Int) (s : List UInt8) : lenW (leafT tag s) = s.length := rfl
theorem lenW_node (tag : Int) (l : List Tlv) : lenW (nodeT tag l) = lenWs l := by simp [lenW_eq]
theorem wt_str (s : List UInt8) : wt (strT s) = 1 := rfl
theorem lenW_str (s : List UInt8) : lenW (strT s) = s.length := rfl
theorem wt_num (t n : Int) : wt (numT t n) = 1 := rfl
theorem lenW_num (t n : Int) : lenW (numT t n) ≤ 8 := by
  have := intB_len 7 n
  show (strOfNums (intB 7 n)).length ≤ 8
  rw [strOf_len]; omega
theorem wt_is (b : Bool) : wt (isT b) = 1 := rfl
theorem lenW_is (b : Bool) : lenW (isT b) = 1 := by cases b <;> rfl
theorem lenWs_append : ∀ a b : List Tlv, lenWs (a ++ b) = lenWs a + lenWs b
  | [], b => by simp [lenWs]
  | x :: r, b => by simp only [List.cons_append, lenWs, lenWs_append r b]; omega
theorem wts_strs : ∀ l : List (List UInt8), wts (l.map strT) = l.length
  | [] => rfl
  | x :: r => by simp only [List.map_cons, wts, wts_strs r, wt_str, List.length_cons]; omega
theorem lenWs_strs : ∀ l : List (List UInt8), lenWs (l.map strT) ≤ sS l
  | [] => by simp [lenWs]
  | x :: r => by
    have := lenWs_strs r
    simp only [List.map_cons, lenWs, lenW_str, sS]; omega
theorem strsT_sz (tag : Int) (l : List (List UInt8)) : wt (strsT tag l) = 1 + l.length ∧ lenW (strsT tag l) ≤ sS l := by
  unfold strsT
  rw [wt_node, lenW_node, wts_strs]
  exact ⟨rfl, lenWs_strs l⟩
theorem attrT_sz (t : List UInt8) (vs : List (List UInt8)) : wt (attrT t vs) ≤ 3 + sS vs ∧ lenW (attrT t vs) ≤ t.length + sS vs := by
  have := strsT_sz 49 vs
  have h2 := sS_len vs
  unfold attrT
  rw [wt_node, lenW_node]
  simp only [wts, lenWs, wt_str, lenW_str]
  omega
theorem atts_sz : ∀ l : List Att, wts (l.map fun a => attrT a.t a.vs) ≤ 3 * sAs l ∧ lenWs (l.map fun a => attrT a.t a.vs) ≤ sAs l
  | [] => by simp [wts, lenWs]
  | x :: r => by
    have := atts_sz r
    have := attrT_sz x.t x.vs
    simp only [List.map_cons, wts, lenWs, sAs]
    omega
theorem entryT_sz (tag : Int) (dn : List UInt8) (l : List Att) : wt (entryT tag dn l) ≤ 3 + 3 * sAs l ∧ lenW (entryT tag dn l) ≤ dn.length + sAs l := by
  have := atts_sz l
  unfold entryT attsT
  rw [wt_node, lenW_node]
  simp only [wts, lenWs, wt_str, lenW_str, wt_node, lenW_node]
  omega
theorem mods_sz : ∀ l : List Mdf, wts (l.map modT) ≤ 5 * sMs l ∧ lenWs (l.map modT) ≤ 9 * sMs l
  | [] => by simp [wts, lenWs]
  | x :: r => by
    have := mods_sz r
    have := attrT_sz x.t x.vs
    have := lenW_num 10 (x.k - 1)
    simp only [List.map_cons, wts, lenWs, sMs, modT, wt_node, lenW_node, wt_num]
    omega
theorem parts_sz (n : Nat) : ∀ (ps : List (List UInt8)) (j : Nat), wts (flatI (partT n) j ps) ≤ sS ps ∧ lenWs (flatI (partT n) j ps) ≤ sS ps
  | [], j => by simp [flatI, wts, lenWs]
  | s :: r, j => by
    have := parts_sz n r (j + 1)
    simp only [flatI, wts_append, lenWs_append, sS]
    have : wts (partT n j s) ≤ 1 ∧ lenWs (partT n j s) ≤ s.length := by
      unfold partT
      repeat (first | (split) | (simp only [wts, lenWs, wt_leaf, lenW_leaf]; omega))
    omega
theorem cond_sz : ∀ (n : Nat) (f : Flt), sF f ≤ n → wt (condT f) ≤ 5 * sF f ∧ lenW (condT f) ≤ sF f := by
  intro n
  induction n with
  | zero => intro f h; have := sF_pos f; omega
  | succ n ih =>
    intro f hn
    have he := sF_eq f
    have kids : ∀ l : List Flt, (∀ x ∈ l, sF x ≤ n) → wts (condTs l) ≤ 5 * sFs l ∧ lenWs (condTs l) ≤ sFs l := by
      intro l
      induction l with
      | nil => intro _; simp [condTs, wts, lenWs]
      | cons x r ihl =>
        intro h
        have h1 := ih x (h x (by simp))
        have h2 := ihl fun y hy => h y (List.mem_cons_of_mem _ hy)
        simp only [condTs, wts, lenWs, sFs]
        omega
    have hk := kids f.ks fun x hx => by have := sFs_mem _ _ hx; omega
    have hp := parts_sz f.ps.length f.ps 0
    obtain ⟨k, t, v, ps, ks⟩ := f
    simp only at *
    simp only [condT]
    repeat (first | split | (simp only [wt_node, lenW_node, wt_leaf, lenW_leaf, wts, lenWs, wt_str, lenW_str]; omega))
theorem body_sz (m : Mg) : wt (bodyT m) ≤ 10 + 5 * sG m ∧ lenW (bodyT m) ≤ 40 + 10 * sG m := by
  have h1 := entryT_sz 104 m.edn m.attrs
  have h2 := entryT_sz 100 m.edn m.attrs
  have h3 := cond_sz _ m.flt (Nat.le_refl _)
  have h4 := mods_sz m.mods
  have h5 := strsT_sz 48 m.types
  have h6 := strsT_sz 48 [m.typ, m.val]
  have h7 := strsT_sz 163 m.refs
  have h8 := sS_len m.types
  have h9 := sS_len m.refs
  have n1 := lenW_num 2 3
  have n2 := lenW_num 10 m.scope
  have n3 := lenW_num 10 0
  have n4 := lenW_num 2 m.limit
  have n5 := lenW_num 2 0
  have n6 := lenW_num 80 m.n
  have n7 := lenW_num 10 m.code
  simp only [List.length_cons, List.length_nil, sS] at h6
  have hf := sF_pos m.flt
  unfold sG bodyT
  by_cases c1 : m.k = 1
  · rw [if_pos c1]
    simp only [wt_node, lenW_node, wt_leaf, lenW_leaf, wts, lenWs, wt_str, lenW_str, wt_num, wt_is, lenW_is, wts_append, lenWs_append, List.length_nil, List.append_nil, List.nil_append, List.cons_append]
    omega
  rw [if_neg c1]
  by_cases c2 : m.k = 2
  · rw [if_pos c2]
    simp only [wt_node, lenW_node, wt_leaf, lenW_leaf, wts, lenWs, wt_str, lenW_str, wt_num, wt_is, lenW_is, wts_append, lenWs_append, List.length_nil, List.append_nil, List.nil_append, List.cons_append]
    omega
  rw [if_neg c2]
  by_cases c3 : m.k = 3
  · rw [if_pos c3]
    simp only [wt_node, lenW_node, wt_leaf, lenW_leaf, wts, lenWs, wt_str, lenW_str, wt_num, wt_is, lenW_is, wts_append, lenWs_append, List.length_nil, List.append_nil, List.nil_append, List.cons_append]
    omega
  rw [if_neg c3]
  by_cases c4 : m.k = 4
  · rw [if_pos c4]
    simp only [wt_node, lenW_node, wt_leaf, lenW_leaf, wts, lenWs, wt_str, lenW_str, wt_num, wt_is, lenW_is, wts_append, lenWs_append, List.length_nil, List.append_nil, List.nil_append, List.cons_append]
    omega
  rw [if_neg c4]
  by_cases c5 : m.k = 5
  · rw [if_pos c5]
    omega
  rw [if_neg c5]
  by_cases c6 : m.k = 6
  · rw [if_pos c6]
    simp only [wt_node, lenW_node, wt_leaf, lenW_leaf, wts, lenWs, wt_str, lenW_str, wt_num, wt_is, lenW_is, wts_append, lenWs_append, List.length_nil, List.append_nil, List.nil_append, List.cons_append]
    omega
  rw [if_neg c6]
  by_cases c7 : m.k = 7
  · rw [if_pos c7]
    simp only [wt_node, lenW_node, wt_leaf, lenW_leaf, wts, lenWs, wt_str, lenW_str, wt_num, wt_is, lenW_is, wts_append, lenWs_append, List.length_nil, List.append_nil, List.nil_append, List.cons_append]
    omega
  rw [if_neg c7]
  by_cases c8 : m.k = 8
  · rw [if_pos c8]
    simp only [wt_node, lenW_node, wt_leaf, lenW_leaf, wts, lenWs, wt_str, lenW_str, wt_num, wt_is, lenW_is, wts_append, lenWs_append, List.length_nil, List.append_nil, List.nil_append, List.cons_append]
    omega
  rw [if_neg c8]
  by_cases c9 : m.k = 9
  · rw [if_pos c9]
    rw [wt_num]; omega
  rw [if_neg c9]
  by_cases c10 : m.k = 10
  · rw [if_pos c10]
    omega
  rw [if_neg c10]
  rw [wt_node, lenW_node, wts_append, lenWs_append]
  by_cases c : m.refs = []
  · rw [if_pos c]
    simp only [wt_node, lenW_node, wt_leaf, lenW_leaf, wts, lenWs, wt_str, lenW_str, wt_num, wt_is, lenW_is, wts_append, lenWs_append, List.length_nil, List.append_nil, List.nil_append, List.cons_append]
    omega
  · rw [if_neg c]
    simp only [wt_node, lenW_node, wt_leaf, lenW_leaf, wts, lenWs, wt_str, lenW_str, wt_num, wt_is, lenW_is, wts_append, lenWs_append, List.length_nil, List.append_nil, List.nil_append, List.cons_append]
    omega
theorem msg_sz (m : Mg) (h : sG m ≤ 100000000) : wt (msgT m) ≤ 1073741824 ∧ lenW (msgT m) ≤ 1073741824 := by
  have := body_sz m
  have := lenW_num 2 m.id
  unfold msgT
  rw [wt_node, lenW_node]
  simp only [wts, lenWs, wt_num]
  omega
theorem dTs_8 (a b c d e f g h : Tlv) : [[D.int .i64 a.f0, D.str a.f1, D.list (dTs a.f2)], [D.int .i64 b.f0, D.str b.f1, D.list (dTs b.f2)], [D.int .i64 c.f0, D.str c.f1, D.list (dTs c.f2)], [D.int .i64 d.f0, D.str d.f1, D.list (dTs d.f2)], [D.int .i64 e.f0, D.str e.f1, D.list (dTs e.f2)], [D.int .i64 f.f0, D.str f.f1, D.list (dTs f.f2)], [D.int .i64 g.f0, D.str g.f1, D.list (dTs g.f2)], [D.int .i64 h.f0, D.str h.f1, D.list (dTs h.f2)]] = dTs [a, b, c, d, e, f, g, h] := by simp [dTs, dT_eq]
/-- may it be? -/
noncomputable def mayM (m : Mg) : Bool := withinB m.id 2147483647 && kindB m && eqB (onlyM m) m && decide (0 ≤ lenS 12 (msgT m))
theorem kind_bd {m : Mg} (h : kindB m = true) : 1 ≤ m.k ∧ m.k ≤ 11 := by
  unfold kindB at h
  repeat (first | omega | split at h)
  simp at h; omega
theorem only_big (m : Mg) : sG (bareM m) ≤ sG m := by
  obtain ⟨id, k, dn, val, scope, limit, flt, types, mods, edn, attrs, rdn, old, typ, n, ofk, code, text, refs⟩ := m
  have := sF_pos flt
  have hz : sF zF = 1 := rfl
  simp only [bareM]
  repeat (first | split | (simp only [sG, List.length_nil, sS, sMs, sAs, hz]; omega))
section
variable {call : Oracle} {lp : Loops} (hW : Fix Tryz.prog hs call lp)
include hW
theorem bodyT_eq (m : Mg) (hk : kindB m = true) (hs : sG m ≤ 100000000) : msg_body.f call (tupM m) = some (tup (bodyT m), ()) := by
  have hs0 := hs
  unfold sG at hs
  have hl := sMs_len m.mods
  have ht := sS_len m.types
  have hr := sS_len m.refs
  have hf := condT_eq hW _ m.flt (Nat.le_refl _) (by omega)
  have e : tupF m.flt = (m.flt.k, m.flt.t, m.flt.v, dSs m.flt.ps, dFs m.flt.ks, ()) := rfl
  rw [e] at hf
  have hentry := fun tag => entryT_eq hW tag m.edn m.attrs (by omega)
  have htypes := strsT_eq hW 48 m.types (by omega)
  have hrefs := strsT_eq hW 163 m.refs (by omega)
  have hcmp : msg_strs.f call 48 [[D.str m.typ], [D.str m.val]] = some (tup (strsT 48 [m.typ, m.val]), ()) := strsT_eq hW 48 [m.typ, m.val] (by simp)
  have hmods : m.k = 4 → msg_body.l11 call lp (dMs m.mods) (m.mods.length : Int) 0 (tupM m) (0, [], [], ()) (48, [], ()) [] = some (tup (nodeT 102 [strT m.dn, nodeT 48 (m.mods.map modT)]), ()) := by
    intro hk4
    have hall : ∀ x ∈ m.mods, 1 ≤ x.k ∧ x.k ≤ 3 := by
      unfold kindB at hk
      rw [if_neg (by omega), if_pos hk4] at hk
      intro x hx
      have : (m.mods.any fun x => decide (x.k < 1) || decide (3 < x.k)) = false := by simpa using hk
      rw [List.any_eq_false] at this
      have := this x hx
      simp at this
      omega
    have := loop_map (L := fun i acc => msg_body.l11 call lp (dMs m.mods) (m.mods.length : Int) i (tupM m) (0, [], [], ()) (48, [], ()) (dTs acc)) (xs := m.mods) (f := modT) (e := fun acc => (tup (nodeT 102 [strT m.dn, nodeT 48 acc]), ())) (fun j h acc ha => by
      have h1 := sMs_mem _ _ (List.getElem_mem h)
      have h2 := sS_len m.mods[j].vs
      have h3 := hall _ (List.getElem_mem h)
      rw [msg_body.l11.eq hW]
      simp only [Bool.cond_decide]
      rw [if_pos (by omega), ix_mod m.mods j h]
      simp only [Option.bind_some, dec_mod]
      rw [w64 (x := m.mods[j].k - 1) (by omega) (by omega), num_eq hW _ _ (by omega) (by omega), attrT_eq hW _ _ (by omega)]
      simp only [Option.bind_some]
      rw [dTs_2 (numT 10 (m.mods[j].k - 1)) (attrT m.mods[j].t m.mods[j].vs), all_eq hW]
      simp only [Option.bind_some]
      rw [app_tlv acc (modT m.mods[j]) (by omega), w64 (x := (j : Int) + 1) (by omega) (by omega)]
      rfl) (fun acc ha => by
      rw [msg_body.l11.eq hW]
      simp only [Bool.cond_decide]
      rw [if_neg (by omega), str_eq hW]
      simp only [Option.bind_some]
      rw [dTs_2 (strT m.dn) (nodeT 48 acc), all_eq hW]
      rfl)
    exact this
  have hz := fun tag => num_eq hW tag 0 (by omega) (by omega)
  have h3n := num_eq hW 2 3 (by omega) (by omega)
  rw [msg_body.eq hW]
  simp only [all_eq hW, tagged_eq hW, str_eq hW, is_eq hW, done_eq hW, hentry, htypes, hrefs, hcmp, hf, hz, h3n, Option.bind_some, dMs_len, dSs_len]
  have hb := kind_bd hk
  have hq := hk
  unfold kindB at hq
  unfold bodyT
  by_cases h1 : m.k = 1
  · simp only [h1, decide_true, cond_true, if_true]; rfl
  · by_cases h2 : m.k = 2
    · simp only [h2, Int.reduceEq, decide_true, decide_false, cond_true, cond_false, if_true, if_false]
    · by_cases h3 : m.k = 3
      · rw [if_pos h3] at hq
        unfold withinB at hq
        simp only [Bool.and_eq_true, decide_eq_true_eq] at hq
        rw [num_eq hW 10 m.scope (by omega) (by omega), num_eq hW 2 m.limit (by omega) (by omega)]
        simp only [h3, Int.reduceEq, decide_true, decide_false, cond_true, cond_false, if_true, if_false, Option.bind_some]
        rw [dTs_8 (strT m.dn) (numT 10 m.scope) (numT 10 0) (numT 2 m.limit) (numT 2 0) (isT false) (condT m.flt) (strsT 48 m.types)]
      · by_cases h4 : m.k = 4
        · have := hmods h4
          simp only [h4, Int.reduceEq, decide_true, decide_false, cond_true, cond_false, if_true, if_false] at this ⊢
          exact this
        · by_cases h5 : m.k = 5
          · simp only [h5, Int.reduceEq, decide_true, decide_false, cond_true, cond_false, if_true, if_false]
          · by_cases h6 : m.k = 6
            · simp only [h6, Int.reduceEq, decide_true, decide_false, cond_true, cond_false, if_true, if_false]
            · by_cases h7 : m.k = 7
              · simp only [h7, Int.reduceEq, decide_true, decide_false, cond_true, cond_false, if_true, if_false]; rfl
              · by_cases h8 : m.k = 8
                · simp only [h8, Int.reduceEq, decide_true, decide_false, cond_true, cond_false, if_true, if_false]; rfl
                · by_cases h9 : m.k = 9
                  · rw [if_neg h3, if_neg h4, if_pos h9] at hq
                    unfold withinB at hq
                    simp only [Bool.and_eq_true, decide_eq_true_eq] at hq
                    rw [num_eq hW 80 m.n (by omega) (by omega)]
                    simp only [h9, Int.reduceEq, decide_true, decide_false, cond_true, cond_false, if_true, if_false, Option.bind_some]
                  · by_cases h10 : m.k = 10
                    · simp only [h10, Int.reduceEq, decide_true, decide_false, cond_true, cond_false, if_true, if_false]
                    · have h11 : m.k = 11 := by omega
                      rw [if_neg h3, if_neg h4, if_neg h9, if_pos h11] at hq
                      unfold withinB at hq
                      simp only [Bool.and_eq_true, decide_eq_true_eq] at hq
                      rw [num_eq hW 10 m.code (by omega) (by omega)]
                      simp only [h1, h2, h3, h4, h5, h6, h7, h8, h9, h10, decide_false, cond_false, if_false, Option.bind_some, Bool.cond_decide]
                      by_cases c : m.refs = []
                      · rw [if_neg (by rw [c]; simp), if_pos c]; rfl
                      · rw [if_pos (by have := List.length_pos_iff.2 c; omega), if_neg c]
                        rw [dTs_3 (numT 10 m.code) (strT []) (strT m.text), app_tlv [numT 10 m.code, strT [], strT m.text] (strsT 163 m.refs) (by simp)]
                        rfl
theorem msgT_eq (m : Mg) (hk : kindB m = true) (hid : withinB m.id 2147483647 = true) (hs : sG m ≤ 100000000) : msg_message.f call (tupM m) = some (tup (msgT m), ()) := by
  unfold withinB at hid
  simp only [Bool.and_eq_true, decide_eq_true_eq] at hid
  rw [msg_message.eq hW, num_eq hW 2 m.id (by omega) (by omega), bodyT_eq hW m hk hs]
  simp only [Option.bind_some]
  rw [dTs_2 (numT 2 m.id) (bodyT m), all_eq hW]
  rfl
theorem MayM_eq (m : Mg) (hs : sG m ≤ 100000000) : msg_May.f call (tupM m) = some (mayM m, ()) := by
  rw [msg_May.eq hW, within_eq hW, kindB_eq hW m hs, bareM_eq hW]
  have hz : ((0, m.k, [], [], 0, 0, 0, [], [], [], [], [], [], [], [], [], false, [], 0, 0, 0, [], [], ()) : MgT) = tupM (zM 0 m.k) := rfl
  rw [hz]
  simp only [Option.bind_some]
  rw [Same_eq hW (bareM m) (zM 0 m.k) (by have := only_big m; omega)]
  unfold mayM
  cases hid : withinB m.id 2147483647 with
  | false => rfl
  | true =>
    cases hk : kindB m with
    | false => rfl
    | true =>
      have hb := kind_bd hk
      have e : eqB (bareM m) (zM 0 m.k) = eqB (onlyM m) m := by
        rw [Bool.eq_iff_iff, eqB_iff, eqB_iff]; exact bare_only m hb.1 hb.2
      rw [e]
      simp only [Bool.not_true, cond_false, Option.bind_some, Bool.and_self, Bool.true_and]
      cases ho : eqB (onlyM m) m with
      | false => rfl
      | true =>
        obtain ⟨w1, w2⟩ := msg_sz m hs
        simp only [Bool.not_true, cond_false, Bool.true_and]
        rw [msgT_eq hW m hk hid hs]
        simp only [Option.bind_some]
        rw [May_eq hW _ w1 w2]; rfl
theorem PutM_eq (m : Mg) (hs : sG m ≤ 100000000) : msg_Put.f call (tupM m) = some (if mayM m = true then strOfNums (enc (msgT m)) else [], ()) := by
  rw [msg_Put.eq hW, MayM_eq hW m hs]
  simp only [Option.bind_some]
  cases h : mayM m with
  | false => rfl
  | true =>
    have h0 := h
    unfold mayM at h
    simp only [Bool.and_eq_true, decide_eq_true_eq] at h
    obtain ⟨w1, w2⟩ := msg_sz m hs
    simp only [Bool.not_true, cond_false, if_true]
    rw [msgT_eq hW m h.1.1.2 h.1.1.1 hs]
    simp only [Option.bind_some]
    rw [Put_eq hW _ w1 w2, if_pos h.2]; rfl
end
end Go.Proofs.YtcpidokhkcmdfaaGreat.B
