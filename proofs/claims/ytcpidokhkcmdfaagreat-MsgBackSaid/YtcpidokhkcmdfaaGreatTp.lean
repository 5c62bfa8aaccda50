/- The reference reads messages: those that it puts, and no others. Conditions: those of each theorem. -/
import Derived.Test.YtcpidokhkcmdfaaGreatTo
namespace Go.Proofs.YtcpidokhkcmdfaaGreat.B
open Go Go.Proofs Go.Proofs.YtcpidokhkcmdfaaGreat.I
set_option linter.unusedVariables false
set_option linter.unusedSimpArgs false
set_option maxRecDepth 100000
/-- the first of a filter's parts, the last, those between -/
def fst3 : List UInt8 × List UInt8 × List (List UInt8) → Tlv → List UInt8 × List UInt8 × List (List UInt8) := fun a x => if x.f0 = 128 then (x.f1, a.2.1, a.2.2) else if x.f0 = 130 then (a.1, x.f1, a.2.2) else (a.1, a.2.1, a.2.2 ++ [x.f1])
def partsR (l : List Tlv) : List (List UInt8) := (l.foldl fst3 ([], [], [])).1 :: ((l.foldl fst3 ([], [], [])).2.2 ++ [(l.foldl fst3 ([], [], [])).2.1])
mutual
/-- the filter that a tlv would be, so deep at most -/
def rdF : Tlv → Int → Flt
  | ⟨tag, s, l⟩, d => if d < 0 then zF else if tag = 160 ∨ tag = 161 ∨ tag = 162 then ⟨tag - 159, [], [], [], rdFs l (d - 1)⟩
    else if tag = 163 then ⟨4, (pt ⟨tag, s, l⟩ 0).f1, (pt ⟨tag, s, l⟩ 1).f1, [], []⟩
    else if tag = 165 then ⟨6, (pt ⟨tag, s, l⟩ 0).f1, (pt ⟨tag, s, l⟩ 1).f1, [], []⟩
    else if tag = 166 then ⟨7, (pt ⟨tag, s, l⟩ 0).f1, (pt ⟨tag, s, l⟩ 1).f1, [], []⟩
    else if tag = 135 then ⟨8, s, [], [], []⟩
    else if tag = 164 then ⟨5, (pt ⟨tag, s, l⟩ 0).f1, [], partsR (pt ⟨tag, s, l⟩ 1).f2, []⟩
    else zF
def rdFs : List Tlv → Int → List Flt
  | [], _ => []
  | x :: r, d => rdF x d :: rdFs r d
end
theorem rdFs_map : ∀ (l : List Tlv) (d : Int), rdFs l d = l.map fun x => rdF x d
  | [], d => rfl
  | x :: r, d => by simp [rdFs, rdFs_map r]
theorem fold_sz : ∀ (l : List Tlv) (a : List UInt8 × List UInt8 × List (List UInt8)), (l.foldl fst3 a).1.length + (l.foldl fst3 a).2.1.length + sS (l.foldl fst3 a).2.2 ≤ a.1.length + a.2.1.length + sS a.2.2 + wts l + lenWs l
  | [], a => by simp [wts, lenWs]
  | x :: r, a => by
    have := fold_sz r (fst3 a x)
    have h1 := wt_pos x
    have h2 := lenW_eq x
    simp only [List.foldl_cons, wts, lenWs]
    have h3 : (fst3 a x).1.length + (fst3 a x).2.1.length + sS (fst3 a x).2.2 ≤ a.1.length + a.2.1.length + sS a.2.2 + wt x + lenW x := by
      unfold fst3
      split
      · simp only; omega
      · split
        · simp only; omega
        · simp only [sS_append, sS]; omega
    omega
theorem partsR_sz (l : List Tlv) : sS (partsR l) ≤ 2 + wts l + lenWs l := by
  have := fold_sz l ([], [], [])
  unfold partsR
  simp only [sS, sS_append]
  simp only [List.length_nil, sS] at this
  omega
theorem rdF_sz : ∀ (n : Nat) (t : Tlv) (d : Int), wt t ≤ n → sF (rdF t d) ≤ 4 * (wt t + lenW t) := by
  intro n
  induction n with
  | zero => intro t d h; have := wt_pos t; omega
  | succ n ih =>
    intro t d hn
    have hw := wt_eq t
    have hl := lenW_eq t
    have kids : ∀ l : List Tlv, (∀ x ∈ l, wt x ≤ n) → sFs (rdFs l (d - 1)) ≤ 4 * (wts l + lenWs l) := by
      intro l
      induction l with
      | nil => intro _; simp [rdFs, sFs]
      | cons x r ihl =>
        intro h
        have h1 := ih x (d - 1) (h x (by simp))
        have h2 := ihl fun y hy => h y (List.mem_cons_of_mem _ hy)
        simp only [rdFs, wts, lenWs, sFs]
        omega
    have hk := kids t.f2 fun x hx => by have := wt_mem _ _ hx; omega
    have p0 := pt_sz t 0
    have p1 := pt_sz t 1
    have hp := partsR_sz (pt t 1).f2
    have e1 := wt_eq (pt t 1)
    have e2 := lenW_eq (pt t 1)
    have hwp := wt_pos t
    have hz : sF zF = 1 := rfl
    obtain ⟨tag, s, l⟩ := t
    simp only [rdF]
    split
    · omega
    · split
      · simp only [sF, sS, List.length_nil]; simp only at hk hw hl; omega
      · split
        · simp only [sF, sS, sFs]; omega
        · split
          · simp only [sF, sS, sFs]; omega
          · split
            · simp only [sF, sS, sFs]; omega
            · split
              · simp only [sF, sS, sFs, List.length_nil]; simp only at hw hl; omega
              · split
                · simp only [sF, sFs, List.length_nil]; omega
                · omega
theorem fold_mid : ∀ (mid : List (List UInt8)) (a : List UInt8 × List UInt8 × List (List UInt8)), (mid.map (leafT 129)).foldl fst3 a = (a.1, a.2.1, a.2.2 ++ mid)
  | [], a => by simp
  | s :: r, a => by
    simp only [List.map_cons, List.foldl_cons]
    rw [fold_mid r]
    unfold fst3
    rw [if_neg (by simp), if_neg (by simp)]
    simp
theorem partsR_parts {ps : List (List UInt8)} (h : mayP ps = true) : partsR (flatI (partT ps.length) 0 ps) = ps := by
  obtain ⟨p0, mid, pl, rfl, hm⟩ := parts_split h
  have hl : (p0 :: (mid ++ [pl])).length = mid.length + 2 := by simp
  rw [hl]
  have e : flatI (partT (mid.length + 2)) 0 (p0 :: (mid ++ [pl])) = (if p0 = [] then [] else [leafT 128 p0]) ++ (mid.map (leafT 129) ++ (if pl = [] then [] else [leafT 130 pl])) := by
    simp only [flatI]
    rw [flat_mid _ mid (0 + 1) pl (by omega) (by omega) hm]
    congr 1
  rw [e]
  have e1 : (((if p0 = [] then [] else [leafT 128 p0]) ++ (mid.map (leafT 129) ++ (if pl = [] then [] else [leafT 130 pl]))) : List Tlv).foldl fst3 ([], [], []) = (p0, pl, mid) := by
    rw [List.foldl_append, List.foldl_append]
    have a1 : (if p0 = [] then [] else [leafT 128 p0] : List Tlv).foldl fst3 ([], [], []) = (p0, [], []) := by
      by_cases c : p0 = []
      · rw [if_pos c, c]; rfl
      · rw [if_neg c]; rfl
    rw [a1, fold_mid]
    by_cases c : pl = []
    · rw [if_pos c, c]; simp
    · rw [if_neg c]; rfl
  unfold partsR
  rw [e1]
theorem rdF_cond : ∀ (n : Nat) (f : Flt) (d : Int), mayF f d = true → 0 ≤ d → sF f ≤ n → rdF (condT f) d = f := by
  intro n
  induction n with
  | zero => intro f d _ _ h; have := sF_pos f; omega
  | succ n ih =>
    intro f d hm hd hn
    have he := sF_eq f
    obtain ⟨k, t, v, ps, ks⟩ := f
    simp only at he
    have hkids : (∀ x ∈ ks, mayF x (d - 1) = true) → (ks = [] ∨ 1 ≤ d) → rdFs (condTs ks) (d - 1) = ks := by
      intro h hd1
      rcases hd1 with rfl | hd1
      · rfl
      have : ∀ l : List Flt, (∀ x ∈ l, mayF x (d - 1) = true) → (∀ x ∈ l, sF x ≤ n) → rdFs (condTs l) (d - 1) = l := by
        intro l
        induction l with
        | nil => intro _ _; rfl
        | cons x r ihl =>
          intro h1 h2
          simp only [condTs, rdFs]
          rw [ih x (d - 1) (h1 x (by simp)) (by omega) (h2 x (by simp)), ihl (fun y hy => h1 y (List.mem_cons_of_mem _ hy)) fun y hy => h2 y (List.mem_cons_of_mem _ hy)]
      exact this ks h fun x hx => by have := sFs_mem _ _ hx; omega
    have len_nil : ∀ {α : Type} (l : List α), (l.length : Int) = 0 → l = [] := fun l h => List.eq_nil_of_length_eq_zero (by omega)
    simp only [mayF] at hm
    simp only [condT]
    by_cases h1 : k = 1 ∨ k = 2
    · rw [if_pos h1] at hm
      simp only [Bool.and_eq_true, Bool.or_eq_true, decide_eq_true_eq, mayFs_all, List.all_eq_true] at hm
      rw [if_pos (by omega)]
      simp only [rdF]
      rw [if_neg (by omega), if_pos (by omega), hkids (fun x hx => hm.2 x hx) (hm.1.2.imp (len_nil _) id), hm.1.1.1.1.1, hm.1.1.1.1.2, len_nil _ hm.1.1.1.2, show 159 + k - 159 = k by omega]
    · rw [if_neg h1] at hm
      by_cases h3 : k = 3
      · rw [if_pos h3] at hm
        simp only [Bool.and_eq_true, Bool.or_eq_true, decide_eq_true_eq, mayFs_all, List.all_eq_true] at hm
        rw [if_pos (by omega)]
        simp only [rdF]
        rw [if_neg (by omega), if_pos (by omega), hkids (fun x hx => hm.2 x hx) (hm.1.2.imp (len_nil _) id), hm.1.1.1.1.1, hm.1.1.1.1.2, len_nil _ hm.1.1.1.2, show 159 + k - 159 = k by omega]
      · rw [if_neg h3] at hm
        rw [if_neg (by omega)]
        by_cases h4 : k = 4 ∨ k = 6 ∨ k = 7
        · rw [if_pos h4] at hm
          simp only [Bool.and_eq_true, decide_eq_true_eq] at hm
          rw [len_nil _ hm.1.1.2, len_nil _ hm.1.2]
          rcases h4 with rfl | rfl | rfl
          · rw [if_pos rfl]; simp only [rdF]; rw [if_neg (by omega)]; rfl
          · rw [if_neg (by omega), if_pos rfl]; simp only [rdF]; rw [if_neg (by omega)]; rfl
          · rw [if_neg (by omega), if_neg (by omega), if_pos rfl]; simp only [rdF]; rw [if_neg (by omega)]; rfl
        · rw [if_neg h4] at hm
          rw [if_neg (by omega), if_neg (by omega), if_neg (by omega)]
          by_cases h5 : k = 5
          · rw [if_pos h5] at hm
            simp only [Bool.and_eq_true, decide_eq_true_eq] at hm
            rw [if_neg (by omega), len_nil _ hm.1.1.2, hm.1.2, h5]
            simp only [rdF]
            rw [if_neg (by omega), if_neg (by omega), if_neg (by omega), if_neg (by omega), if_neg (by omega), if_neg (by omega), if_pos trivial]
            have := partsR_parts hm.2
            have e1 : (pt (nodeT 164 [strT t, nodeT 48 (flatI (partT ps.length) 0 ps)]) 1).f2 = flatI (partT ps.length) 0 ps := rfl
            have e0 : (pt (nodeT 164 [strT t, nodeT 48 (flatI (partT ps.length) 0 ps)]) 0).f1 = t := rfl
            simp only [e1, e0, this]
          · rw [if_neg h5] at hm
            by_cases h8 : k = 8
            · rw [if_pos h8] at hm
              simp only [Bool.and_eq_true, decide_eq_true_eq] at hm
              rw [if_pos h8, len_nil _ hm.1.1.2, hm.1.2, len_nil _ hm.2, h8]
              simp only [rdF]; rw [if_neg (by omega)]; rfl
            · rw [if_neg h8] at hm; cases hm
section
variable {call : Oracle} {lp : Loops} (hW : Fix Tryz.prog hs call lp)
include hW
theorem rpart_eq (t : Tlv) (i : Nat) : brookref12_Part.f call (tup t) (i : Int) = some (tup (pt t i), ()) := by
  rw [brookref12_Part.eq hW]
  simp only [Bool.cond_decide, dTs_len]
  unfold pt
  by_cases h : i < t.f2.length
  · rw [if_neg (by omega), ix_tlv t.f2 i h]
    simp only [Option.bind_some, dec_tlv]
    rw [List.getD_eq_getElem?_getD, List.getElem?_eq_getElem h]; rfl
  · rw [if_pos (by omega), List.getD_eq_getElem?_getD, List.getElem?_eq_none (by omega)]; rfl
theorem r0_eq (t : Tlv) : brookref12_Part.f call (tup t) 0 = some (tup (pt t 0), ()) := rpart_eq hW t 0
theorem r1_eq (t : Tlv) : brookref12_Part.f call (tup t) 1 = some (tup (pt t 1), ()) := rpart_eq hW t 1
theorem r2_eq (t : Tlv) : brookref12_Part.f call (tup t) 2 = some (tup (pt t 2), ()) := rpart_eq hW t 2
theorem r3_eq (t : Tlv) : brookref12_Part.f call (tup t) 3 = some (tup (pt t 3), ()) := rpart_eq hW t 3
theorem r6_eq (t : Tlv) : brookref12_Part.f call (tup t) 6 = some (tup (pt t 6), ()) := rpart_eq hW t 6
theorem r7_eq (t : Tlv) : brookref12_Part.f call (tup t) 7 = some (tup (pt t 7), ()) := rpart_eq hW t 7
omit hW in
theorem dec_s (t : Tlv) : decs [.str] (sub (dT t) 1 1) = some (t.f1, ()) := by rw [dT_eq]; rfl
theorem strings_eq (t : Tlv) (hl : wt t ≤ 1073741824) : brookref19_strings.f call (dTs t.f2) = some (dSs (rdStrs t), ()) := by
  have hw := wt_eq t
  have hn := wts_len t.f2
  rw [brookref19_strings.eq hW]
  have := loop_map (L := fun i acc => brookref19_strings.l3 call lp (dTs t.f2) i (dSs acc)) (xs := t.f2) (f := (·.f1)) (e := fun acc => (dSs acc, ())) (fun j h acc ha => by
    rw [brookref19_strings.l3.eq hW, dTs_len]
    simp only [Bool.cond_decide]
    rw [if_pos (by omega), ix_tlv t.f2 j h]
    simp only [Option.bind_some, dec_s]
    rw [app_str acc _ (by omega), w64 (x := (j : Int) + 1) (by omega) (by omega)]
    rfl) (fun acc ha => by
    rw [brookref19_strings.l3.eq hW, dTs_len]
    simp only [Bool.cond_decide]
    rw [if_neg (by omega)])
  exact this
theorem rdAtt_eq (t : Tlv) (hl : wt t ≤ 1073741824) : brookref12_ReadAttr.f call (tup t) = some (((rdAtt t).t, dSs (rdAtt t).vs, ()), ()) := by
  have hp := pt_sz t 1
  rw [brookref12_ReadAttr.eq hW, r0_eq hW, r1_eq hW]
  simp only [Option.bind_some]
  have := loop_map (L := fun i acc => brookref12_ReadAttr.l4 call lp (dTs (pt t 1).f2) i ([], [], ()) ((pt t 0).f1, ()) (dSs acc)) (xs := (pt t 1).f2) (f := (·.f1)) (e := fun acc => (((pt t 0).f1, dSs acc, ()), ())) (fun j h acc ha => by
    rw [brookref12_ReadAttr.l4.eq hW]
    simp only [Bool.cond_decide, dTs_len]
    rw [if_pos (by omega), ix_tlv (pt t 1).f2 j h]
    simp only [Option.bind_some, dec_s]
    rw [app_str acc _ (by omega), w64 (x := (j : Int) + 1) (by omega) (by omega)]
    rfl) (fun acc ha => by
    rw [brookref12_ReadAttr.l4.eq hW]
    simp only [Bool.cond_decide, dTs_len]
    rw [if_neg (by omega)])
  exact this
theorem rdAtts_eq (t : Tlv) (hl : wt t ≤ 1073741824) : brookref12_ReadAttrs.f call (tup t) = some (dAs (t.f2.map rdAtt), ()) := by
  have hw := wt_eq t
  have hn := wts_len t.f2
  rw [brookref12_ReadAttrs.eq hW]
  have := loop_map (L := fun i acc => brookref12_ReadAttrs.l3 call lp i (tup t) (dAs acc)) (xs := t.f2) (f := rdAtt) (e := fun acc => (dAs acc, ())) (fun j h acc ha => by
    have hm := wt_mem _ _ (List.getElem_mem h)
    rw [brookref12_ReadAttrs.l3.eq hW]
    simp only [Bool.cond_decide, dTs_len]
    rw [if_pos (by omega), ix_tlv t.f2 j h]
    simp only [Option.bind_some, dec_tlv]
    rw [rdAtt_eq hW _ (by omega)]
    simp only [Option.bind_some]
    rw [app_att acc (rdAtt t.f2[j]) (by omega), w64 (x := (j : Int) + 1) (by omega) (by omega)]
    rfl) (fun acc ha => by
    rw [brookref12_ReadAttrs.l3.eq hW]
    simp only [Bool.cond_decide, dTs_len]
    rw [if_neg (by omega)])
  exact this
theorem rdMods_eq (t : Tlv) (hl : wt t ≤ 1073741824) : brookref19_readMods.f call (tup t) = some (dMs (t.f2.map rdMod), ()) := by
  have hw := wt_eq t
  have hn := wts_len t.f2
  rw [brookref19_readMods.eq hW]
  have := loop_map (L := fun i acc => brookref19_readMods.l3 call lp i (tup t) (dMs acc)) (xs := t.f2) (f := rdMod) (e := fun acc => (dMs acc, ())) (fun j h acc ha => by
    have hm := wt_mem _ _ (List.getElem_mem h)
    have hz := pt_sz t.f2[j] 1
    rw [brookref19_readMods.l3.eq hW]
    simp only [Bool.cond_decide, dTs_len]
    rw [if_pos (by omega), ix_tlv t.f2 j h]
    simp only [Option.bind_some, dec_tlv]
    rw [r1_eq hW, r0_eq hW]
    simp only [Option.bind_some]
    rw [rdAtt_eq hW _ (by omega), rrd_eq hW]
    simp only [Option.bind_some]
    have := app_mod acc (rdMod t.f2[j]) (by omega)
    unfold rdMod at this
    rw [show (rdAtt (pt t.f2[j] 1)).t = (pt (pt t.f2[j] 1) 0).f1 from rfl, show (rdAtt (pt t.f2[j] 1)).vs = rdStrs (pt (pt t.f2[j] 1) 1) from rfl, this, w64 (x := (j : Int) + 1) (by omega) (by omega)]
    rfl) (fun acc ha => by
    rw [brookref19_readMods.l3.eq hW]
    simp only [Bool.cond_decide, dTs_len]
    rw [if_neg (by omega)])
  exact this
theorem rdF_eq : ∀ (n : Nat) (t : Tlv) (d : Int), wt t ≤ n → wt t ≤ 1073741824 → -1000 ≤ d → d ≤ 12 → brookref19_readFilter.f call (tup t) d = some (tupF (rdF t d), ()) := by
  intro n
  induction n with
  | zero => intro t d h; have := wt_pos t; omega
  | succ n ih =>
    intro t d hn hl hd0 hd1
    have hw := wt_eq t
    have hnl := wts_len t.f2
    have hp1 := pt_sz t 1
    have w1 := wt_eq (pt t 1)
    have n1 := wts_len (pt t 1).f2
    have hkids : ∀ k : Int, k = 1 ∨ k = 2 ∨ k = 3 → 0 ≤ d → brookref19_readFilter.l10 call lp d 0 (tup t) (0, [], [], [], [], ()) (k, [], [], ()) [] [] = some (tupF ⟨k, [], [], [], rdFs t.f2 (d - 1)⟩, ()) := by
      intro k hk hd
      have := loop_map (L := fun i acc => brookref19_readFilter.l10 call lp d i (tup t) (0, [], [], [], [], ()) (k, [], [], ()) (dFs acc) []) (xs := t.f2) (f := fun x => rdF x (d - 1)) (e := fun acc => (tupF ⟨k, [], [], [], acc⟩, ())) (fun j h acc ha => by
        have h1 := wt_mem _ _ (List.getElem_mem h)
        rw [brookref19_readFilter.l10.eq hW]
        simp only [Bool.cond_decide, dTs_len]
        rw [if_pos (by omega), ix_tlv t.f2 j h]
        simp only [Option.bind_some, dec_tlv]
        rw [w64 (x := d - 1) (by omega) (by omega), ih _ (d - 1) (by omega) (by omega) (by omega) (by omega)]
        simp only [Option.bind_some]
        rw [app_flt acc (rdF t.f2[j] (d - 1)) (by omega), w64 (x := (j : Int) + 1) (by omega) (by omega)]
        rfl) (fun acc ha => by
        rw [brookref19_readFilter.l10.eq hW]
        simp only [dTs_len]
        rw [decide_eq_false (show ¬ ((t.f2.length : Int) < (t.f2.length : Int)) by omega)]
        simp only [cond_false, orS, Option.bind_some]
        rcases hk with rfl | rfl | rfl <;> rfl)
      rw [rdFs_map]
      exact this
    have hparts : brookref19_readFilter.l29 call lp (dTs (pt t 1).f2) [] [] 0 (tup t) (0, [], [], [], [], ()) (5, (pt t 0).f1, [], ()) [] [] [] = some (tupF ⟨5, (pt t 0).f1, [], partsR (pt t 1).f2, []⟩, ()) := by
      have key : ∀ (m j : Nat) (a : List UInt8 × List UInt8 × List (List UInt8)), (pt t 1).f2.length - j ≤ m → j ≤ (pt t 1).f2.length → a.2.2.length ≤ j → brookref19_readFilter.l29 call lp (dTs (pt t 1).f2) a.1 a.2.1 (j : Int) (tup t) (0, [], [], [], [], ()) (5, (pt t 0).f1, [], ()) [] (dSs a.2.2) [] = some (tupF ⟨5, (pt t 0).f1, [], (((pt t 1).f2.drop j).foldl fst3 a).1 :: ((((pt t 1).f2.drop j).foldl fst3 a).2.2 ++ [(((pt t 1).f2.drop j).foldl fst3 a).2.1]), []⟩, ()) := by
        intro m
        induction m with
        | zero =>
          intro j a h1 h2 h3
          rw [brookref19_readFilter.l29.eq hW]
          simp only [dTs_len]
          rw [decide_eq_false (show ¬ ((j : Int) < ((pt t 1).f2.length : Int)) by omega), List.drop_eq_nil_of_le (by omega)]
          simp only [cond_false, List.foldl_nil]
          have e : app 1 16 [[D.str a.1]] (dSs a.2.2) = some (dSs (a.1 :: a.2.2)) := by
            rw [app_eq (by simp only [dSs_len, List.length_cons, List.length_nil]; omega) (by intro y hy; obtain ⟨x, _, rfl⟩ := List.mem_map.1 hy; rfl)]; rfl
          rw [e]
          simp only [Option.bind_some]
          rw [app_str (a.1 :: a.2.2) a.2.1 (by simp; omega)]
          rfl
        | succ m ihm =>
          intro j a h1 h2 h3
          by_cases h : j < (pt t 1).f2.length
          · rw [brookref19_readFilter.l29.eq hW]
            simp only [Bool.cond_decide, dTs_len]
            have d0 : ∀ x : Tlv, decs [.int .i64] (sub (dT x) 0 1) = some (x.f0, ()) := fun x => by rw [dT_eq]; rfl
            rw [if_pos (by omega), ix_tlv (pt t 1).f2 j h]
            simp only [Option.bind_some, d0, dec_s]
            rw [List.drop_eq_getElem_cons h, w64 (x := (j : Int) + 1) (by omega) (by omega)]
            simp only [List.foldl_cons]
            by_cases c1 : (pt t 1).f2[j].f0 = 128
            · rw [if_pos c1]
              have e : fst3 a (pt t 1).f2[j] = ((pt t 1).f2[j].f1, a.2.1, a.2.2) := by unfold fst3; rw [if_pos c1]
              rw [e]
              exact ihm (j + 1) ((pt t 1).f2[j].f1, a.2.1, a.2.2) (by omega) (by omega) (by simp only; omega)
            · rw [if_neg c1]
              by_cases c2 : (pt t 1).f2[j].f0 = 130
              · rw [if_pos c2]
                have e : fst3 a (pt t 1).f2[j] = (a.1, (pt t 1).f2[j].f1, a.2.2) := by unfold fst3; rw [if_neg c1, if_pos c2]
                rw [e]
                exact ihm (j + 1) (a.1, (pt t 1).f2[j].f1, a.2.2) (by omega) (by omega) (by simp only; omega)
              · rw [if_neg c2, app_str a.2.2 _ (by omega)]
                have e : fst3 a (pt t 1).f2[j] = (a.1, a.2.1, a.2.2 ++ [(pt t 1).f2[j].f1]) := by unfold fst3; rw [if_neg c1, if_neg c2]
                rw [e]
                exact ihm (j + 1) (a.1, a.2.1, a.2.2 ++ [(pt t 1).f2[j].f1]) (by omega) (by omega) (by simp; omega)
          · exact ihm j a (by omega) h2 h3
      have := key (pt t 1).f2.length 0 ([], [], []) (by omega) (by omega) (by simp)
      rw [List.drop_zero] at this
      exact this
    rw [brookref19_readFilter.eq hW]
    simp only [r0_eq hW, r1_eq hW, Option.bind_some]
    have hwr : ∀ k : Int, 0 ≤ k → k ≤ 1000 → IntKind.wrap .i64 (IntKind.wrap .i64 (k - 160) + 1) = k - 159 := fun k h0 h1 => by
      rw [w64 (x := k - 160) (by omega) (by omega), w64 (by omega) (by omega)]; omega
    obtain ⟨tag, s, l⟩ := t
    simp only at *
    simp only [rdF]
    by_cases hd : d < 0
    · simp only [hd, decide_true, cond_true, if_true]; rfl
    · rw [decide_eq_false hd, if_neg hd]
      simp only [cond_false]
      by_cases h1 : tag = 160
      · subst h1
        simp only [decide_true, cond_true, true_or, if_true]
        rw [hwr 160 (by omega) (by omega), hkids _ (by omega) (by omega)]
      · by_cases h2 : tag = 161
        · subst h2
          simp only [Int.reduceEq, decide_true, decide_false, cond_true, cond_false, true_or, or_true, if_true]
          rw [hwr 161 (by omega) (by omega), hkids _ (by omega) (by omega)]
        · by_cases h3 : tag = 162
          · subst h3
            simp only [Int.reduceEq, decide_true, decide_false, cond_true, cond_false, or_self, or_true, if_true]
            rw [hwr 162 (by omega) (by omega), hkids _ (by omega) (by omega)]
          · simp only [h1, h2, h3, decide_false, cond_false, or_self, if_false, Bool.cond_decide]
            by_cases h4 : tag = 163
            · simp only [h4, if_true]; rfl
            · by_cases h5 : tag = 165
              · subst h5; simp only [Int.reduceEq, if_true, if_false]; rfl
              · by_cases h6 : tag = 166
                · subst h6; simp only [Int.reduceEq, if_true, if_false]; rfl
                · by_cases h7 : tag = 135
                  · subst h7; simp only [Int.reduceEq, if_true, if_false]; rfl
                  · by_cases h8 : tag = 164
                    · subst h8
                      simp only [Int.reduceEq, if_true, if_false]
                      exact hparts
                    · simp only [h4, h5, h6, h7, h8, if_false]; rfl
end
end Go.Proofs.YtcpidokhkcmdfaaGreat.B
