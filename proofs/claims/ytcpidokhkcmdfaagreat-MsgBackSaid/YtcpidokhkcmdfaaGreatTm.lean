/- Package msg reads tlvs: what it reads. Conditions: those of each theorem. -/
import Derived.Test.YtcpidokhkcmdfaaGreatTl
namespace Go.Proofs.YtcpidokhkcmdfaaGreat.B
open Go Go.Proofs Go.Proofs.YtcpidokhkcmdfaaGreat.I
set_option linter.unusedVariables false
set_option linter.unusedSimpArgs false
set_option maxRecDepth 100000
def pt (t : Tlv) (i : Nat) : Tlv := t.f2.getD i ⟨0, [], []⟩
def rdStrs (t : Tlv) : List (List UInt8) := t.f2.map (·.f1)
def rdAtt (x : Tlv) : Att := ⟨(pt x 0).f1, rdStrs (pt x 1)⟩
def rdMod (x : Tlv) : Mdf := ⟨IntKind.wrap .i64 ((rdI (pt x 0).f1).1 + 1), (pt (pt x 1) 0).f1, rdStrs (pt (pt x 1) 1)⟩
/-- the parts of a filter -/
def rdP (n : Nat) : Nat → List (List UInt8) → List Tlv → List (List UInt8)
  | _, out, [] => out ++ [[]]
  | j, out, x :: r => if x.f0 = 128 ∧ (j : Int) = 0 then rdP n (j + 1) (out.set 0 x.f1) r else if x.f0 = 130 ∧ (j : Int) = (n : Int) - 1 then out ++ [x.f1] else rdP n (j + 1) (out ++ [x.f1]) r
mutual
def rdC : Tlv → Flt
  | ⟨tag, s, l⟩ => if tag = 160 ∨ tag = 161 ∨ tag = 162 then ⟨tag - 159, [], [], [], rdCs l⟩
    else if tag = 163 then ⟨4, (pt ⟨tag, s, l⟩ 0).f1, (pt ⟨tag, s, l⟩ 1).f1, [], []⟩
    else if tag = 165 then ⟨6, (pt ⟨tag, s, l⟩ 0).f1, (pt ⟨tag, s, l⟩ 1).f1, [], []⟩
    else if tag = 166 then ⟨7, (pt ⟨tag, s, l⟩ 0).f1, (pt ⟨tag, s, l⟩ 1).f1, [], []⟩
    else if tag = 164 then ⟨5, (pt ⟨tag, s, l⟩ 0).f1, [], rdP (pt ⟨tag, s, l⟩ 1).f2.length 0 [[]] (pt ⟨tag, s, l⟩ 1).f2, []⟩
    else if tag = 135 then ⟨8, s, [], [], []⟩
    else ⟨0, (pt ⟨tag, s, l⟩ 0).f1, (pt ⟨tag, s, l⟩ 1).f1, [], []⟩
def rdCs : List Tlv → List Flt
  | [] => []
  | x :: r => rdC x :: rdCs r
end
theorem rdCs_map : ∀ l : List Tlv, rdCs l = l.map rdC
  | [] => rfl
  | x :: r => by simp [rdCs, rdCs_map r]
def kindT (tag : Int) : Int := if tag = 96 then 1 else if tag = 66 then 2 else if tag = 99 then 3 else if tag = 102 then 4 else if tag = 104 then 5 else if tag = 74 then 6 else if tag = 108 then 7 else if tag = 110 then 8 else if tag = 80 then 9 else if tag = 100 then 10 else 11
def ofT (tag : Int) : Int := if tag = 97 then 1 else if tag = 0 then 2 else if tag = 101 then 3 else if tag = 103 then 4 else if tag = 105 then 5 else if tag = 107 then 6 else if tag = 109 then 7 else if tag = 111 then 8 else 0
def kindL : List Int := [96, 66, 99, 102, 104, 74, 108, 110, 80, 100]
/-! how large -/
theorem pt_mem (t : Tlv) (i : Nat) : pt t i = ⟨0, [], []⟩ ∨ pt t i ∈ t.f2 := by
  unfold pt
  rw [List.getD_eq_getElem?_getD]
  cases h : t.f2[i]? with
  | none => exact .inl rfl
  | some x => exact .inr (List.mem_of_getElem? h)
theorem pt_sz (t : Tlv) (i : Nat) : wt (pt t i) ≤ wt t ∧ lenW (pt t i) ≤ lenW t ∧ (pt t i).f1.length ≤ lenW t ∧ (pt t i).f2.length ≤ wt t := by
  have h1 := wt_eq t
  have h2 := lenW_eq t
  have hw := wt_pos t
  rcases pt_mem t i with h | h
  · rw [h]
    exact ⟨by show 1 + 0 ≤ _; omega, by show 0 + 0 ≤ _; omega, by simp, by simp⟩
  · have a := wt_mem _ _ h
    have b := lenWs_mem _ _ h
    have c := wt_eq (pt t i)
    have d := lenW_eq (pt t i)
    have e := wts_len (pt t i).f2
    omega
theorem rdStrs_sz : ∀ l : List Tlv, sS (l.map (·.f1)) ≤ wts l + lenWs l
  | [] => by simp [sS]
  | x :: r => by
    have := rdStrs_sz r
    have := wt_pos x
    have := lenW_eq x
    simp only [List.map_cons, sS, wts, lenWs]; omega
theorem rdStrs_le (t : Tlv) : sS (rdStrs t) ≤ wt t + lenW t := by
  have := rdStrs_sz t.f2
  have := wt_eq t
  have := lenW_eq t
  unfold rdStrs
  omega
theorem sS_append : ∀ a b : List (List UInt8), sS (a ++ b) = sS a + sS b
  | [], b => by simp [sS]
  | x :: r, b => by simp only [List.cons_append, sS, sS_append r b]; omega
theorem sS_set : ∀ (l : List (List UInt8)) (x : List UInt8), sS (l.set 0 x) ≤ sS l + x.length
  | [], x => by simp [sS]
  | y :: r, x => by simp only [List.set_cons_zero, sS]; omega
theorem rdP_sz (n : Nat) : ∀ (l : List Tlv) (j : Nat) (out : List (List UInt8)), sS (rdP n j out l) ≤ sS out + 1 + wts l + lenWs l
  | [], j, out => by simp [rdP, sS_append, sS, wts, lenWs]
  | x :: r, j, out => by
    have hw := wt_pos x
    have hx := lenW_eq x
    simp only [rdP, wts, lenWs]
    split
    · have := rdP_sz n r (j + 1) (out.set 0 x.f1)
      have := sS_set out x.f1
      omega
    · split
      · rw [sS_append]; simp only [sS]; omega
      · have := rdP_sz n r (j + 1) (out ++ [x.f1])
        rw [sS_append] at this
        simp only [sS] at this
        omega
theorem rdC_sz : ∀ (n : Nat) (t : Tlv), wt t ≤ n → sF (rdC t) ≤ 4 * (wt t + lenW t) := by
  intro n
  induction n with
  | zero => intro t h; have := wt_pos t; omega
  | succ n ih =>
    intro t hn
    have hw := wt_eq t
    have hl := lenW_eq t
    have kids : ∀ l : List Tlv, (∀ x ∈ l, wt x ≤ n) → sFs (rdCs l) ≤ 4 * (wts l + lenWs l) := by
      intro l
      induction l with
      | nil => intro _; simp [rdCs, sFs]
      | cons x r ihl =>
        intro h
        have h1 := ih x (h x (by simp))
        have h2 := ihl fun y hy => h y (List.mem_cons_of_mem _ hy)
        simp only [rdCs, wts, lenWs, sFs]
        omega
    have hk := kids t.f2 fun x hx => by have := wt_mem _ _ hx; omega
    have p0 := pt_sz t 0
    have p1 := pt_sz t 1
    have hp := rdP_sz (pt t 1).f2.length (pt t 1).f2 0 [[]]
    have e1 := wt_eq (pt t 1)
    have e2 := lenW_eq (pt t 1)
    obtain ⟨tag, s, l⟩ := t
    simp only [rdC]
    simp only [sS, List.length_nil] at hp
    split
    · simp only [sF, sS, List.length_nil]; simp only at hk hw hl; omega
    · split
      · simp only [sF, sS, sFs]; omega
      · split
        · simp only [sF, sS, sFs]; omega
        · split
          · simp only [sF, sS, sFs]; omega
          · split
            · simp only [sF, sFs, List.length_nil]; omega
            · split
              · simp only [sF, sS, sFs, List.length_nil]; simp only at hw hl; omega
              · simp only [sF, sS, sFs]; omega
theorem app_str (acc : List (List UInt8)) (s : List UInt8) (h : acc.length ≤ 1073741824) : app 1 16 (dSs acc) [[D.str s]] = some (dSs (acc ++ [s])) := by
  rw [app_eq (by rw [dSs_len]; simp only [List.length_cons, List.length_nil]; omega) (by simp)]
  simp [dSs, dS]
theorem app_flt (acc : List Flt) (f : Flt) (h : acc.length ≤ 1073741824) : app 5 88 (dFs acc) [[D.int .i64 f.k, D.str f.t, D.str f.v, D.list (dSs f.ps), D.list (dFs f.ks)]] = some (dFs (acc ++ [f])) := by
  rw [app_eq (by rw [dFs_len]; simp only [List.length_cons, List.length_nil]; omega) (by simp)]
  simp [dFs_map, dF_eq]
theorem app_att (acc : List Att) (a : Att) (h : acc.length ≤ 1073741824) : app 2 40 (dAs acc) [[D.str a.t, D.list (dSs a.vs)]] = some (dAs (acc ++ [a])) := by
  rw [app_eq (by rw [dAs_len]; simp only [List.length_cons, List.length_nil]; omega) (by simp)]
  simp [dAs, dA]
theorem app_mod (acc : List Mdf) (m : Mdf) (h : acc.length ≤ 1073741824) : app 3 48 (dMs acc) [[D.int .i64 m.k, D.str m.t, D.list (dSs m.vs)]] = some (dMs (acc ++ [m])) := by
  rw [app_eq (by rw [dMs_len]; simp only [List.length_cons, List.length_nil]; omega) (by simp)]
  simp [dMs, dM]
section
variable {call : Oracle} {lp : Loops} (hW : Fix Tryz.prog hs call lp)
include hW
theorem part_eq (t : Tlv) (i : Nat) : msg_part.f call (tup t) (i : Int) = some (tup (pt t i), ()) := by
  rw [msg_part.eq hW]
  simp only [Bool.cond_decide, dTs_len]
  unfold pt
  by_cases h : i < t.f2.length
  · rw [if_neg (by omega), ix_tlv t.f2 i h]
    simp only [Option.bind_some, dec_tlv]
    rw [List.getD_eq_getElem?_getD, List.getElem?_eq_getElem h]; rfl
  · rw [if_pos (by omega), List.getD_eq_getElem?_getD, List.getElem?_eq_none (by omega)]; rfl
theorem p0_eq (t : Tlv) : msg_part.f call (tup t) 0 = some (tup (pt t 0), ()) := part_eq hW t 0
theorem p1_eq (t : Tlv) : msg_part.f call (tup t) 1 = some (tup (pt t 1), ()) := part_eq hW t 1
theorem p2_eq (t : Tlv) : msg_part.f call (tup t) 2 = some (tup (pt t 2), ()) := part_eq hW t 2
theorem p3_eq (t : Tlv) : msg_part.f call (tup t) 3 = some (tup (pt t 3), ()) := part_eq hW t 3
theorem p6_eq (t : Tlv) : msg_part.f call (tup t) 6 = some (tup (pt t 6), ()) := part_eq hW t 6
theorem p7_eq (t : Tlv) : msg_part.f call (tup t) 7 = some (tup (pt t 7), ()) := part_eq hW t 7
theorem readNum_eq (t : Tlv) : msg_readNum.f call (tup t) = some ((rdI t.f1).1, ()) := by rw [msg_readNum.eq hW, rd_eq hW]; rfl
theorem readStrs_eq (t : Tlv) (hl : wt t ≤ 1073741824) : msg_readStrs.f call (tup t) = some (dSs (rdStrs t), ()) := by
  have hw := wt_eq t
  have hn := wts_len t.f2
  rw [msg_readStrs.eq hW, dTs_len]
  have := loop_map (L := fun i acc => msg_readStrs.l3 call lp (dTs t.f2) (t.f2.length : Int) i (dSs acc)) (xs := t.f2) (f := (·.f1)) (e := fun acc => (dSs acc, ())) (fun j h acc ha => by
    rw [msg_readStrs.l3.eq hW]
    simp only [Bool.cond_decide]
    rw [if_pos (by omega), ix_tlv t.f2 j h]
    simp only [Option.bind_some, dec_tlv]
    rw [app_str acc _ (by omega), w64 (x := (j : Int) + 1) (by omega) (by omega)]
    rfl) (fun acc ha => by
    rw [msg_readStrs.l3.eq hW]
    simp only [Bool.cond_decide]
    rw [if_neg (by omega)])
  exact this
theorem readEntry_eq (t : Tlv) (hl : wt t ≤ 1073741824) : msg_readEntry.f call (tup t) = some (((pt t 0).f1, dAs ((pt t 1).f2.map rdAtt), ()), ()) := by
  have hp := pt_sz t 1
  have hw := wt_eq (pt t 1)
  have hn := wts_len (pt t 1).f2
  rw [msg_readEntry.eq hW, p0_eq hW, p1_eq hW]
  simp only [Option.bind_some, dTs_len]
  have := loop_map (L := fun i acc => msg_readEntry.l3 call lp (dTs (pt t 1).f2) ((pt t 1).f2.length : Int) i ([], [], ()) ((pt t 0).f1, ()) (dAs acc)) (xs := (pt t 1).f2) (f := rdAtt) (e := fun acc => (((pt t 0).f1, dAs acc, ()), ())) (fun j h acc ha => by
    have hm := wt_mem _ _ (List.getElem_mem h)
    have hz := pt_sz (pt t 1).f2[j] 1
    rw [msg_readEntry.l3.eq hW]
    simp only [Bool.cond_decide]
    rw [if_pos (by omega), ix_tlv (pt t 1).f2 j h]
    simp only [Option.bind_some, dec_tlv]
    rw [p0_eq hW, p1_eq hW]
    simp only [Option.bind_some]
    rw [readStrs_eq hW _ (by omega)]
    simp only [Option.bind_some]
    have := app_att acc (rdAtt (pt t 1).f2[j]) (by omega)
    unfold rdAtt at this
    rw [this, w64 (x := (j : Int) + 1) (by omega) (by omega)]
    rfl) (fun acc ha => by
    rw [msg_readEntry.l3.eq hW]
    simp only [Bool.cond_decide]
    rw [if_neg (by omega)])
  exact this
theorem readParts_eq (t : Tlv) (hl : wt t ≤ 1073741824) : msg_readParts.f call (tup t) = some (dSs (rdP t.f2.length 0 [[]] t.f2), ()) := by
  have hw := wt_eq t
  have hn := wts_len t.f2
  rw [msg_readParts.eq hW, dTs_len]
  have key : ∀ (m j : Nat) (out : List (List UInt8)), t.f2.length - j ≤ m → j ≤ t.f2.length → 1 ≤ out.length → out.length ≤ j + 1 → msg_readParts.l3 call lp (dTs t.f2) (t.f2.length : Int) (j : Int) (tup t) (dSs out) = some (dSs (rdP t.f2.length j out (t.f2.drop j)), ()) := by
    intro m
    induction m with
    | zero =>
      intro j out h1 h2 h3 h4
      rw [msg_readParts.l3.eq hW]
      simp only [Bool.cond_decide]
      have : [[D.str ([] : List UInt8)]] = [[D.str []]] := rfl
      rw [if_neg (by omega), List.drop_eq_nil_of_le (by omega), app_str out [] (by omega)]
      rfl
    | succ m ih =>
      intro j out h1 h2 h3 h4
      by_cases h : j < t.f2.length
      · rw [msg_readParts.l3.eq hW]
        rw [decide_eq_true (show (j : Int) < (t.f2.length : Int) by omega), cond_true, ix_tlv t.f2 j h]
        simp only [Option.bind_some, dec_tlv, andS, dTs_len]
        rw [List.drop_eq_getElem_cons h, w64 (x := (j : Int) + 1) (by omega) (by omega), w64 (x := (t.f2.length : Int) - 1) (by omega) (by omega)]
        simp only [rdP]
        by_cases c : t.f2[j].f0 = 128 ∧ (j : Int) = 0
        · rw [if_pos c, decide_eq_true c.1, decide_eq_true c.2]
          simp only [Bool.and_self, cond_true]
          rw [at_eq _ (by omega) (by rw [dSs_len]; omega), show (0 : Int).toNat = 0 from rfl]
          simp only [Option.bind_some]
          match out, h3 with
          | o :: os, _ =>
            have e : (dSs (o :: os))[0]? = some [D.str o] := rfl
            rw [e]
            simp only [Option.bind_some]
            have e2 : (dSs (o :: os)).set 0 (splice [D.str o] 0 [D.str t.f2[j].f1]) = dSs ((o :: os).set 0 t.f2[j].f1) := rfl
            rw [e2]
            exact ih (j + 1) _ (by omega) (by omega) (by simp) (by simpa using (by simp only [List.length_cons] at h4; omega))
        · rw [if_neg c]
          have : (decide (t.f2[j].f0 = 128) && decide ((j : Int) = 0)) = false := by
            rw [Bool.and_eq_false_iff, decide_eq_false_iff_not, decide_eq_false_iff_not]; omega
          rw [this]
          simp only [cond_false]
          by_cases c2 : t.f2[j].f0 = 130 ∧ (j : Int) = (t.f2.length : Int) - 1
          · rw [if_pos c2, decide_eq_true c2.1, decide_eq_true c2.2]
            simp only [Bool.and_self, cond_true]
            rw [app_str out _ (by omega)]; rfl
          · rw [if_neg c2]
            have : (decide (t.f2[j].f0 = 130) && decide ((j : Int) = (t.f2.length : Int) - 1)) = false := by
              rw [Bool.and_eq_false_iff, decide_eq_false_iff_not, decide_eq_false_iff_not]; omega
            rw [this]
            simp only [cond_false]
            rw [app_str out _ (by omega)]
            simp only [Option.bind_some]
            exact ih (j + 1) _ (by omega) (by omega) (by simp) (by simp; omega)
      · rw [msg_readParts.l3.eq hW]
        simp only [Bool.cond_decide]
        rw [if_neg (by omega), List.drop_eq_nil_of_le (by omega), app_str out [] (by omega)]
        rfl
  have := key t.f2.length 0 [[]] (by omega) (by omega) (by simp) (by simp)
  rw [List.drop_zero] at this
  exact this
theorem rdC_eq : ∀ (n : Nat) (t : Tlv), wt t ≤ n → wt t ≤ 1073741824 → msg_readCondition.f call (tup t) = some (tupF (rdC t), ()) := by
  intro n
  induction n with
  | zero => intro t h; have := wt_pos t; omega
  | succ n ih =>
    intro t hn hl
    have hw := wt_eq t
    have hnl := wts_len t.f2
    have hp1 := pt_sz t 1
    have hkids : ∀ k : Int, msg_readCondition.l8 call lp (dTs t.f2) (t.f2.length : Int) 0 (0, [], [], [], [], ()) (k, [], [], [], ()) [] = some (tupF ⟨k, [], [], [], rdCs t.f2⟩, ()) := by
      intro k
      have := loop_map (L := fun i acc => msg_readCondition.l8 call lp (dTs t.f2) (t.f2.length : Int) i (0, [], [], [], [], ()) (k, [], [], [], ()) (dFs acc)) (xs := t.f2) (f := rdC) (e := fun acc => (tupF ⟨k, [], [], [], acc⟩, ())) (fun j h acc ha => by
        have h1 := wt_mem _ _ (List.getElem_mem h)
        rw [msg_readCondition.l8.eq hW]
        simp only [Bool.cond_decide]
        rw [if_pos (by omega), ix_tlv t.f2 j h]
        simp only [Option.bind_some, dec_tlv]
        rw [ih _ (by omega) (by omega)]
        simp only [Option.bind_some]
        rw [app_flt acc (rdC t.f2[j]) (by omega), w64 (x := (j : Int) + 1) (by omega) (by omega)]
        rfl) (fun acc ha => by
        rw [msg_readCondition.l8.eq hW]
        simp only [Bool.cond_decide]
        rw [if_neg (by omega)]; rfl)
      rw [rdCs_map]
      exact this
    have hparts := readParts_eq hW (pt t 1) (by omega)
    rw [msg_readCondition.eq hW]
    simp only [p0_eq hW, p1_eq hW, hparts, Option.bind_some, dTs_len]
    have hwr : ∀ k : Int, 0 ≤ k → k ≤ 1000 → IntKind.wrap .i64 (IntKind.wrap .i64 (1 + k) - 160) = k - 159 := fun k h0 h1 => by
      rw [w64 (x := 1 + k) (by omega) (by omega), w64 (by omega) (by omega)]; omega
    obtain ⟨tag, s, l⟩ := t
    simp only at *
    simp only [rdC]
    by_cases h1 : tag = 160
    · subst h1
      simp only [decide_true, cond_true, true_or, if_true]
      rw [hwr 160 (by omega) (by omega), hkids]
    · by_cases h2 : tag = 161
      · subst h2
        simp only [Int.reduceEq, decide_true, decide_false, cond_true, cond_false, true_or, or_true, if_true]
        rw [hwr 161 (by omega) (by omega), hkids]
      · by_cases h3 : tag = 162
        · subst h3
          simp only [Int.reduceEq, decide_true, decide_false, cond_true, cond_false, or_self, or_true, if_true]
          rw [hwr 162 (by omega) (by omega), hkids]
        · simp only [h1, h2, h3, decide_false, cond_false, or_self, if_false, Bool.cond_decide]
          repeat (first | rfl | split)
theorem kind_step (tag i : Int) (j : Nat) (hi : i = j) (h : j < 10) (v : Int) (hv : kindL[j]? = some v) : msg_kind.l2 call lp tag (kindL.map fun x => [D.int .i64 x]) 10 i = if tag = v then some (1 + i, ()) else msg_kind.l2 call lp tag (kindL.map fun x => [D.int .i64 x]) 10 (i + 1) := by
  subst hi
  rw [msg_kind.l2.eq hW]
  simp only [Bool.cond_decide]
  obtain ⟨hj, hv⟩ := List.getElem?_eq_some_iff.1 hv
  rw [if_pos (by omega), ix_map (fun x : Int => [D.int .i64 x]) (fun _ => rfl) _ j hj, hv]
  have d1 : decs [.int .i64] (sub [D.int .i64 v] 0 1) = some (v, ()) := rfl
  simp only [Option.bind_some, d1]
  rw [w64 (x := 1 + (j : Int)) (by omega) (by omega), w64 (x := (j : Int) + 1) (by omega) (by omega)]
  by_cases c : tag = v
  · rw [if_pos c, if_pos c.symm]
  · rw [if_neg c, if_neg (fun h => c h.symm)]
theorem kind_last (tag : Int) : msg_kind.l2 call lp tag (kindL.map fun x => [D.int .i64 x]) 10 10 = some (11, ()) := by
  rw [msg_kind.l2.eq hW]
  simp only [Bool.cond_decide]
  rw [if_neg (by omega)]
theorem kindT_eq (tag : Int) : msg_kind.f call tag = some (kindT tag, ()) := by
  rw [msg_kind.eq hW]
  have hL : [[D.int .i64 96], [D.int .i64 66], [D.int .i64 99], [D.int .i64 102], [D.int .i64 104], [D.int .i64 74], [D.int .i64 108], [D.int .i64 110], [D.int .i64 80], [D.int .i64 100]] = kindL.map fun x => [D.int .i64 x] := rfl
  have hn : ((kindL.map fun x => [D.int .i64 x]).length : Int) = 10 := by rw [List.length_map]; rfl
  rw [hL, hn]
  unfold kindT
  have s0 := kind_step hW tag 0 0 rfl (by omega) 96 rfl
  have s1 := kind_step hW tag 1 1 rfl (by omega) 66 rfl
  have s2 := kind_step hW tag 2 2 rfl (by omega) 99 rfl
  have s3 := kind_step hW tag 3 3 rfl (by omega) 102 rfl
  have s4 := kind_step hW tag 4 4 rfl (by omega) 104 rfl
  have s5 := kind_step hW tag 5 5 rfl (by omega) 74 rfl
  have s6 := kind_step hW tag 6 6 rfl (by omega) 108 rfl
  have s7 := kind_step hW tag 7 7 rfl (by omega) 110 rfl
  have s8 := kind_step hW tag 8 8 rfl (by omega) 80 rfl
  have s9 := kind_step hW tag 9 9 rfl (by omega) 100 rfl
  simp only [Int.reduceAdd] at s0 s1 s2 s3 s4 s5 s6 s7 s8 s9
  rw [s0, s1, s2, s3, s4, s5, s6, s7, s8, s9, kind_last hW]
  by_cases c96 : tag = 96
  · simp only [c96, if_true]
  · simp only [c96, if_false]
    by_cases c66 : tag = 66
    · simp only [c66, if_true]
    · simp only [c66, if_false]
      by_cases c99 : tag = 99
      · simp only [c99, if_true]
      · simp only [c99, if_false]
        by_cases c102 : tag = 102
        · simp only [c102, if_true]
        · simp only [c102, if_false]
          by_cases c104 : tag = 104
          · simp only [c104, if_true]
          · simp only [c104, if_false]
            by_cases c74 : tag = 74
            · simp only [c74, if_true]
            · simp only [c74, if_false]
              by_cases c108 : tag = 108
              · simp only [c108, if_true]
              · simp only [c108, if_false]
                by_cases c110 : tag = 110
                · simp only [c110, if_true]
                · simp only [c110, if_false]
                  by_cases c80 : tag = 80
                  · simp only [c80, if_true]
                  · simp only [c80, if_false]
                    by_cases c100 : tag = 100
                    · simp only [c100, if_true]
                    · simp only [c100, if_false]
theorem ofT_eq (tag : Int) : msg_of.f call tag = some (ofT tag, ()) := by
  have st : ∀ (j : Int), 1 ≤ j → j ≤ 8 → msg_of.l2 call lp tag j = if doneK j = tag then some (j, ()) else msg_of.l2 call lp tag (j + 1) := by
    intro j h0 h1
    rw [msg_of.l2.eq hW]
    simp only [Bool.cond_decide, done_eq hW, Option.bind_some]
    rw [if_pos h1, w64 (x := j + 1) (by omega) (by omega)]
  have fin : msg_of.l2 call lp tag (8 + 1) = some (0, ()) := by
    rw [msg_of.l2.eq hW]; rfl
  rw [msg_of.eq hW, st 1 (by omega) (by omega), st (1 + 1) (by omega) (by omega), st (1 + 1 + 1) (by omega) (by omega), st (1 + 1 + 1 + 1) (by omega) (by omega), st (1 + 1 + 1 + 1 + 1) (by omega) (by omega), st (1 + 1 + 1 + 1 + 1 + 1) (by omega) (by omega), st (1 + 1 + 1 + 1 + 1 + 1 + 1) (by omega) (by omega), st (1 + 1 + 1 + 1 + 1 + 1 + 1 + 1) (by omega) (by omega)]
  rw [show (1 + 1 + 1 + 1 + 1 + 1 + 1 + 1 + 1 : Int) = 8 + 1 from rfl, fin]
  unfold ofT
  simp only [doneK, Int.reduceAdd, Int.reduceEq, if_true, if_false, @eq_comm Int 97, @eq_comm Int 0, @eq_comm Int 101, @eq_comm Int 103, @eq_comm Int 105, @eq_comm Int 107, @eq_comm Int 109, @eq_comm Int 111]
  repeat (first | rfl | split)
end
end Go.Proofs.YtcpidokhkcmdfaaGreat.B
