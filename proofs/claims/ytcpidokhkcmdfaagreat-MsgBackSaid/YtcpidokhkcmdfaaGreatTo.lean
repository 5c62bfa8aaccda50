/- Package msg reads messages: those that it puts, and no others. Conditions: those of each theorem. -/
import Derived.Test.YtcpidokhkcmdfaaGreatTn
namespace Go.Proofs.YtcpidokhkcmdfaaGreat.B
open Go Go.Proofs Go.Proofs.YtcpidokhkcmdfaaGreat.I
set_option linter.unusedVariables false
set_option linter.unusedSimpArgs false
set_option maxRecDepth 100000
theorem mods_le : ∀ l : List Tlv, sMs (l.map rdMod) ≤ 3 * (wts l + lenWs l)
  | [] => by simp [sMs]
  | x :: r => by
    have := mods_le r
    have h1 := pt_sz x 1
    have h2 := pt_sz (pt x 1) 0
    have h3 := pt_sz (pt x 1) 1
    have h4 := rdStrs_le (pt (pt x 1) 1)
    have h5 := wt_pos x
    simp only [List.map_cons, sMs, rdMod, wts, lenWs]; omega
theorem atts_le : ∀ l : List Tlv, sAs (l.map rdAtt) ≤ 3 * (wts l + lenWs l)
  | [] => by simp [sAs]
  | x :: r => by
    have := atts_le r
    have h2 := pt_sz x 0
    have h3 := pt_sz x 1
    have h4 := rdStrs_le (pt x 1)
    have h5 := wt_pos x
    simp only [List.map_cons, sAs, rdAtt, wts, lenWs]; omega
theorem rdB_sz (t : Tlv) : sG (rdB t) ≤ 20 * (wt t + lenW t) := by
  have hw := wt_eq t
  have hp := wt_pos t
  have hl := lenW_eq t
  have p0 := pt_sz t 0
  have p1 := pt_sz t 1
  have p2 := pt_sz t 2
  have p6 := pt_sz t 6
  have p7 := pt_sz t 7
  have p3 := pt_sz t 3
  have q0 := pt_sz (pt t 1) 0
  have q1 := pt_sz (pt t 1) 1
  have m1 := mods_le (pt t 1).f2
  have a1 := atts_le (pt t 1).f2
  have w1 := wt_eq (pt t 1)
  have l1 := lenW_eq (pt t 1)
  have c6 := rdC_sz _ (pt t 6) (Nat.le_refl _)
  have s7 := rdStrs_le (pt t 7)
  have s3 := rdStrs_le (pt t 3)
  have hz : sF zF = 1 := rfl
  unfold rdB
  by_cases c1 : kindT t.f0 = 1
  · rw [if_pos c1]
    simp only [sG, hz, sS, sMs, sAs, List.length_nil]
    omega
  rw [if_neg c1]
  by_cases c3 : kindT t.f0 = 3
  · rw [if_pos c3]
    simp only [sG, hz, sS, sMs, sAs, List.length_nil]
    omega
  rw [if_neg c3]
  by_cases c4 : kindT t.f0 = 4
  · rw [if_pos c4]
    simp only [sG, hz, sS, sMs, sAs, List.length_nil]
    omega
  rw [if_neg c4]
  by_cases c5 : kindT t.f0 = 5
  · rw [if_pos c5]
    simp only [sG, hz, sS, sMs, sAs, List.length_nil]
    omega
  rw [if_neg c5]
  by_cases c6 : kindT t.f0 = 6
  · rw [if_pos c6]
    simp only [sG, hz, sS, sMs, sAs, List.length_nil]
    omega
  rw [if_neg c6]
  by_cases c7 : kindT t.f0 = 7
  · rw [if_pos c7]
    simp only [sG, hz, sS, sMs, sAs, List.length_nil]
    omega
  rw [if_neg c7]
  by_cases c8 : kindT t.f0 = 8
  · rw [if_pos c8]
    simp only [sG, hz, sS, sMs, sAs, List.length_nil]
    omega
  rw [if_neg c8]
  by_cases c9 : kindT t.f0 = 9
  · rw [if_pos c9]
    simp only [sG, hz, sS, sMs, sAs, List.length_nil]
    omega
  rw [if_neg c9]
  by_cases c10 : kindT t.f0 = 10
  · rw [if_pos c10]
    simp only [sG, hz, sS, sMs, sAs, List.length_nil]
    omega
  rw [if_neg c10]
  by_cases c11 : kindT t.f0 = 11
  · rw [if_pos c11]
    simp only [sG, hz, sS, sMs, sAs, List.length_nil]
    omega
  rw [if_neg c11]
  simp only [sG, hz, sS, sMs, sAs, List.length_nil]
  omega
/-- a message's bytes -/
def Told (s : List UInt8) (m : Mg) : Prop := mayM m = true ∧ s = strOfNums (enc (msgT m))
theorem told_fit {s : List UInt8} {m : Mg} (h : Told s m) : 0 ≤ lenS 12 (msgT m) := by
  have := h.1
  unfold mayM at this
  simp only [Bool.and_eq_true, decide_eq_true_eq] at this
  exact this.2
theorem told_bytes {s : List UInt8} {m : Mg} (h : Told s m) : bytesOf s = enc (msgT m) := by
  rw [h.2, by_strOf (enc_bd (told_fit h))]
theorem told_parse {s : List UInt8} {m : Mg} (h : Told s m) (rest : List Int) : parse 12 (bytesOf s ++ rest) = (0, msgT m, (s.length : Int)) := by
  rw [told_bytes h, parse_enc 12 _ (told_fit h) rest, ← told_bytes h, by_len]
theorem told_len {s : List UInt8} {m : Mg} (h : Told s m) : 2 ≤ s.length ∧ s.length ≤ 1048581 := by
  have h1 := enc_len (msgT m)
  obtain ⟨sub, hf⟩ := fit_any (told_fit h)
  have h2 := whole_bd (n := ((cont (msgT m)).length : Int)) (by omega)
  have h3 := hf.len
  have h4 : s.length = (enc (msgT m)).length := by rw [← told_bytes h, by_len]
  have h5 := parse_good 12 (enc (msgT m)) (enc_bd (told_fit h)) (by have := parse_enc 12 _ (told_fit h) []; rw [List.append_nil] at this; rw [this])
  have h6 := parse_enc 12 _ (told_fit h) []
  rw [List.append_nil] at h6
  rw [h6] at h5
  simp only at h5
  omega
/-- the message that a tlv would be -/
def rdM (t : Tlv) : Mg := idM (rdB (pt t 1)) (rdI (pt t 0).f1).1
theorem rdM_msg {m : Mg} (h : mayM m = true) : rdM (msgT m) = m := by
  unfold mayM at h
  simp only [Bool.and_eq_true, decide_eq_true_eq] at h
  have hid := h.1.1.1
  unfold withinB at hid
  simp only [Bool.and_eq_true, decide_eq_true_eq] at hid
  have e0 : (pt (msgT m) 0).f1 = strOfNums (intB 7 m.id) := rfl
  have e1 : pt (msgT m) 1 = bodyT m := rfl
  unfold rdM
  rw [e0, e1, rdB_body h.1.1.2 (eqB_iff.1 h.1.2), rdI_int hid.1 (by omega)]
  rfl
theorem told_one {s : List UInt8} {m n : Mg} (h : Told s m) (h' : Told s n) : m = n := by
  have e1 := told_parse h []
  have e2 := told_parse h' []
  rw [e1] at e2
  have : msgT m = msgT n := (Prod.mk.inj (Prod.mk.inj e2).2).1
  rw [← rdM_msg h.1, this, rdM_msg h'.1]
theorem lenW_enc : ∀ x : Tlv, lenW x ≤ (enc x).length := by
  have key : ∀ (n : Nat) (x : Tlv), wt x ≤ n → lenW x ≤ (enc x).length := by
    intro n
    induction n with
    | zero => intro x h; have := wt_pos x; omega
    | succ n ih =>
      intro x h
      have hw := wt_eq x
      have hl := lenW_eq x
      have kids : ∀ l : List Tlv, (∀ y ∈ l, wt y ≤ n) → lenWs l ≤ (encs l).length := by
        intro l
        induction l with
        | nil => intro _; simp [lenWs]
        | cons y r ihl =>
          intro hy
          have h1 := ih y (hy y (by simp))
          have h2 := ihl fun z hz => hy z (List.mem_cons_of_mem _ hz)
          simp only [lenWs, encs, List.length_append]; omega
      have hk := kids x.f2 fun y hy => by have := wt_mem _ _ hy; omega
      rw [enc_eq]
      simp only [List.length_cons, List.length_append, cont, by_len]
      omega
  exact fun x => key _ x (Nat.le_refl _)
theorem parse_sz (s : List UInt8) : wt (parse 12 (bytesOf s)).2.1 ≤ s.length + 1 ∧ lenW (parse 12 (bytesOf s)).2.1 ≤ s.length := by
  by_cases c : (parse 12 (bytesOf s)).1 = 0
  · have h1 := parse_wt 12 _ (by_bd s) c
    have h2 := parse_good 12 _ (by_bd s) c
    have h3 := parse_canon 12 _ (by_bd s) c
    have h4 := lenW_enc (parse 12 (bytesOf s)).2.1
    rw [h3, List.length_take] at h4
    rw [by_len] at h2 h4
    omega
  · rw [parse_no 12 _ c]
    exact ⟨by show 1 + 0 ≤ _; omega, by show 0 + 0 ≤ _; omega⟩
theorem rdM_sz (t : Tlv) : sG (rdM t) ≤ 20 * (wt t + lenW t) := by
  have h1 := rdB_sz (pt t 1)
  have h2 := pt_sz t 1
  have : sG (rdM t) = sG (rdB (pt t 1)) := rfl
  omega
section
variable {call : Oracle} {lp : Loops} (hW : Fix Tryz.prog hs call lp)
include hW
theorem readBody_eq (t : Tlv) (hl : wt t ≤ 1073741824) : msg_readBody.f call (tup t) = some (tupM (rdB t), ()) := by
  have p1 := pt_sz t 1
  have p3 := pt_sz t 3
  have p6 := pt_sz t 6
  have p7 := pt_sz t 7
  have w1 := wt_eq (pt t 1)
  have n1 := wts_len (pt t 1).f2
  have hmods : msg_readBody.l11 call lp (dTs (pt t 1).f2) ((pt t 1).f2.length : Int) 0 (0, 0, [], [], 0, 0, 0, [], [], [], [], [], [], [], [], [], false, [], 0, 0, 0, [], [], ()) (0, 4, (pt t 0).f1, [], 0, 0, 0, [], [], [], [], [], [], [], [], false, [], 0, 0, 0, [], [], ()) [] = some (tupM ⟨0, 4, (pt t 0).f1, [], 0, 0, zF, [], (pt t 1).f2.map rdMod, [], [], [], false, [], 0, 0, 0, [], []⟩, ()) := by
    have := loop_map (L := fun i acc => msg_readBody.l11 call lp (dTs (pt t 1).f2) ((pt t 1).f2.length : Int) i (0, 0, [], [], 0, 0, 0, [], [], [], [], [], [], [], [], [], false, [], 0, 0, 0, [], [], ()) (0, 4, (pt t 0).f1, [], 0, 0, 0, [], [], [], [], [], [], [], [], false, [], 0, 0, 0, [], [], ()) (dMs acc)) (xs := (pt t 1).f2) (f := rdMod) (e := fun acc => (tupM ⟨0, 4, (pt t 0).f1, [], 0, 0, zF, [], acc, [], [], [], false, [], 0, 0, 0, [], []⟩, ())) (fun j h acc ha => by
      have hm := wt_mem _ _ (List.getElem_mem h)
      have hz := pt_sz (pt t 1).f2[j] 1
      have hz2 := pt_sz (pt (pt t 1).f2[j] 1) 1
      rw [msg_readBody.l11.eq hW]
      simp only [Bool.cond_decide]
      rw [if_pos (by omega), ix_tlv (pt t 1).f2 j h]
      simp only [Option.bind_some, dec_tlv]
      rw [p1_eq hW, p0_eq hW]
      simp only [Option.bind_some]
      rw [readNum_eq hW, p0_eq hW, p1_eq hW]
      simp only [Option.bind_some]
      rw [readStrs_eq hW _ (by omega)]
      simp only [Option.bind_some]
      have := app_mod acc (rdMod (pt t 1).f2[j]) (by omega)
      unfold rdMod at this
      rw [this, w64 (x := (j : Int) + 1) (by omega) (by omega)]
      rfl) (fun acc ha => by
      rw [msg_readBody.l11.eq hW]
      simp only [Bool.cond_decide]
      rw [if_neg (by omega)]
      rfl)
    exact this
  have hentry := readEntry_eq hW t hl
  have hc := rdC_eq hW _ (pt t 6) (Nat.le_refl _) (by omega)
  have hs7 := readStrs_eq hW (pt t 7) (by omega)
  have hs3 := readStrs_eq hW (pt t 3) (by omega)
  rw [msg_readBody.eq hW]
  simp only [kindT_eq hW, ofT_eq hW, p0_eq hW, p1_eq hW, p2_eq hW, p3_eq hW, p6_eq hW, p7_eq hW, readNum_eq hW, hentry, hc, hs7, hs3, Option.bind_some, dTs_len]
  unfold rdB
  generalize kindT t.f0 = k
  by_cases c1 : k = 1
  · subst c1
    simp only [decide_true, decide_false, Int.reduceEq, cond_true, cond_false, if_true, if_false]
    try rfl
  by_cases c3 : k = 3
  · subst c3
    simp only [decide_true, decide_false, Int.reduceEq, cond_true, cond_false, if_true, if_false]
    try rfl
  by_cases c4 : k = 4
  · subst c4
    simp only [decide_true, decide_false, Int.reduceEq, cond_true, cond_false, if_true, if_false]
    exact hmods
  by_cases c5 : k = 5
  · subst c5
    simp only [decide_true, decide_false, Int.reduceEq, cond_true, cond_false, if_true, if_false]
    try rfl
  by_cases c6 : k = 6
  · subst c6
    simp only [decide_true, decide_false, Int.reduceEq, cond_true, cond_false, if_true, if_false]
    try rfl
  by_cases c7 : k = 7
  · subst c7
    simp only [decide_true, decide_false, Int.reduceEq, cond_true, cond_false, if_true, if_false]
    try rfl
  by_cases c8 : k = 8
  · subst c8
    simp only [decide_true, decide_false, Int.reduceEq, cond_true, cond_false, if_true, if_false]
    try rfl
  by_cases c9 : k = 9
  · subst c9
    simp only [decide_true, decide_false, Int.reduceEq, cond_true, cond_false, if_true, if_false]
    try rfl
  by_cases c10 : k = 10
  · subst c10
    simp only [decide_true, decide_false, Int.reduceEq, cond_true, cond_false, if_true, if_false]
    try rfl
  by_cases c11 : k = 11
  · subst c11
    simp only [decide_true, decide_false, Int.reduceEq, cond_true, cond_false, if_true, if_false]
    try rfl
  simp only [c1, c3, c4, c5, c6, c7, c8, c9, c10, c11, decide_false, cond_false, if_false]
  try rfl
theorem GetM_eq (s : List UInt8) (hs : s.length ≤ 2000000) : msg_Get.f call s = some (if (parse 12 (bytesOf s)).1 = 0 ∧ (if mayM (rdM (parse 12 (bytesOf s)).2.1) = true then strOfNums (enc (msgT (rdM (parse 12 (bytesOf s)).2.1))) else []) = s then ((tupM (rdM (parse 12 (bytesOf s)).2.1), true, ()), ()) else ((tupM (zM 0 0), false, ()), ())) := by
  obtain ⟨z1, z2⟩ := parse_sz s
  have z3 := rdM_sz (parse 12 (bytesOf s)).2.1
  have z4 := pt_sz (parse 12 (bytesOf s)).2.1 1
  have hno := parse_no 12 (bytesOf s)
  rw [msg_Get.eq hW]
  have hg := Get_in hW s (i := 0) (by omega) (by omega) (by omega)
  rw [Int.toNat_zero, List.drop_zero] at hg
  rw [hg]
  generalize parse 12 (bytesOf s) = p at *
  have e : res 0 p = ((tup p.2.1, (if p.1 = 0 then p.2.2 else 0), p.1, ()), ()) := by
    unfold res
    by_cases c : p.1 = 0
    · rw [if_pos c, if_pos c, c]; simp
    · rw [if_neg c, if_neg c, hno c]; rfl
  rw [e]
  simp only [Option.bind_some]
  rw [p1_eq hW, p0_eq hW]
  simp only [Option.bind_some]
  rw [readBody_eq hW _ (by omega), readNum_eq hW]
  simp only [Option.bind_some]
  have hput := PutM_eq hW (rdM p.2.1) (by omega)
  have e2 : tupM (rdM p.2.1) = ((rdI (pt p.2.1 0).f1).1, (rdB (pt p.2.1 1)).k, (rdB (pt p.2.1 1)).dn, (rdB (pt p.2.1 1)).val, (rdB (pt p.2.1 1)).scope, (rdB (pt p.2.1 1)).limit, (rdB (pt p.2.1 1)).flt.k, (rdB (pt p.2.1 1)).flt.t, (rdB (pt p.2.1 1)).flt.v, dSs (rdB (pt p.2.1 1)).flt.ps, dFs (rdB (pt p.2.1 1)).flt.ks, dSs (rdB (pt p.2.1 1)).types, dMs (rdB (pt p.2.1 1)).mods, (rdB (pt p.2.1 1)).edn, dAs (rdB (pt p.2.1 1)).attrs, (rdB (pt p.2.1 1)).rdn, (rdB (pt p.2.1 1)).old, (rdB (pt p.2.1 1)).typ, (rdB (pt p.2.1 1)).n, (rdB (pt p.2.1 1)).ofk, (rdB (pt p.2.1 1)).code, (rdB (pt p.2.1 1)).text, dSs (rdB (pt p.2.1 1)).refs, ()) := rfl
  rw [← e2, hput]
  simp only [Option.bind_some]
  generalize (if mayM (rdM p.2.1) = true then strOfNums (enc (msgT (rdM p.2.1))) else []) = o
  by_cases c : p.1 = 0
  · by_cases c2 : o = s
    · simp only [c, c2, decide_true, Bool.not_true, cond_false, Option.bind_some, and_self, if_true]
    · simp only [c, c2, decide_true, decide_false, Bool.not_true, Bool.not_false, cond_false, cond_true, Option.bind_some, and_false, if_false]
      rfl
  · simp only [c, decide_false, Bool.not_false, cond_true, Option.bind_some, false_and, if_false]
    rfl
theorem GetM_yes {s : List UInt8} {m : Mg} (h : Told s m) : msg_Get.f call s = some ((tupM m, true, ()), ()) := by
  have hl := told_len h
  have hp := told_parse h []
  rw [List.append_nil] at hp
  rw [GetM_eq hW s (by omega), hp]
  simp only [rdM_msg h.1]
  rw [if_pos ⟨trivial, by rw [if_pos h.1]; exact h.2.symm⟩]
omit hW in
theorem put_told {s : List UInt8} {m : Mg} (hs : s ≠ []) (h : (if mayM m = true then strOfNums (enc (msgT m)) else []) = s) : Told s m := by
  by_cases c : mayM m = true
  · rw [if_pos c] at h; exact ⟨c, h.symm⟩
  · rw [if_neg c] at h; exact absurd h.symm hs
theorem GetM_no {s : List UInt8} (hs : s.length ≤ 2000000) (h : ∀ m, ¬ Told s m) : msg_Get.f call s = some ((tupM (zM 0 0), false, ()), ()) := by
  rw [GetM_eq hW s hs, if_neg]
  rintro ⟨h1, h2⟩
  have hne : s ≠ [] := by
    intro e; subst e
    have : (parse 12 (bytesOf [])).1 = 6 := rfl
    omega
  exact h _ (put_told hne h2)
end
end Go.Proofs.YtcpidokhkcmdfaaGreat.B
