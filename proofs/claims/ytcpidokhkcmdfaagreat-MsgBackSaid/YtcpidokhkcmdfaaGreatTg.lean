/- Messages as tlvs: the parts, la both packages put them. Conditions: those of each theorem. -/
import Derived.Test.YtcpidokhkcmdfaaGreatTf
namespace Go.Proofs.YtcpidokhkcmdfaaGreat.B
open Go Go.Proofs Go.Proofs.YtcpidokhkcmdfaaGreat.I
set_option linter.unusedVariables false
set_option linter.unusedSimpArgs false
set_option maxRecDepth 100000
def flatI {α γ : Type} (g : Nat → α → List γ) : Nat → List α → List γ
  | _, [] => []
  | j, x :: r => g j x ++ flatI g (j + 1) r
theorem loop_flat {α β γ : Type} {L : Int → List γ → Option β} {xs : List α} {g : Nat → α → List γ} {e : List γ → β} (hg : ∀ j x, (g j x).length ≤ 1) (hstep : ∀ (j : Nat) (h : j < xs.length) (acc : List γ), acc.length ≤ j → L j acc = L ((j : Int) + 1) (acc ++ g j xs[j])) (hend : ∀ acc, acc.length ≤ xs.length → L xs.length acc = some (e acc)) : L 0 [] = some (e (flatI g 0 xs)) := by
  have key : ∀ (m j : Nat) (acc : List γ), xs.length - j ≤ m → j ≤ xs.length → acc.length ≤ j → L j acc = some (e (acc ++ flatI g j (xs.drop j))) := by
    intro m
    induction m with
    | zero =>
      intro j acc h1 h2 h3
      obtain rfl : j = xs.length := by omega
      rw [hend acc h3, List.drop_length]; simp [flatI]
    | succ m ih =>
      intro j acc h1 h2 h3
      by_cases h : j < xs.length
      · rw [hstep j h acc h3, List.drop_eq_getElem_cons h]
        have := ih (j + 1) (acc ++ g j xs[j]) (by omega) (by omega) (by have := hg j xs[j]; simp; omega)
        rw [show ((j : Int) + 1) = ((j + 1 : Nat) : Int) by omega, this]
        simp [flatI]
      · obtain rfl : j = xs.length := by omega
        rw [hend acc h3, List.drop_length]; simp [flatI]
  have := key xs.length 0 [] (by omega) (by omega) (by simp)
  simpa using this
abbrev leafT (tag : Int) (s : List UInt8) : Tlv := ⟨tag, s, []⟩
abbrev nodeT (tag : Int) (l : List Tlv) : Tlv := ⟨tag, [], l⟩
def strT (s : List UInt8) : Tlv := leafT 4 s
def numT (tag n : Int) : Tlv := leafT tag (strOfNums (intB 7 n))
def isT (b : Bool) : Tlv := leafT 1 (if b then [255] else [0])
def strsT (tag : Int) (l : List (List UInt8)) : Tlv := nodeT tag (l.map strT)
def attrT (t : List UInt8) (vs : List (List UInt8)) : Tlv := nodeT 48 [strT t, strsT 49 vs]
def attsT (la : List Att) : Tlv := nodeT 48 (la.map fun a => attrT a.t a.vs)
def entryT (tag : Int) (dn : List UInt8) (la : List Att) : Tlv := nodeT tag [strT dn, attsT la]
/-- the parts of a filter -/
def partT (n : Nat) (j : Nat) (s : List UInt8) : List Tlv := if s = [] then [] else if (j : Int) = 0 then [leafT 128 s] else if (j : Int) = (n : Int) - 1 then [leafT 130 s] else [leafT 129 s]
/-- the same, as the reference has it -/
def partR (n : Nat) (j : Nat) (s : List UInt8) : List Tlv := if (j : Int) = 0 ∧ s ≠ [] then [leafT 128 s] else if (j : Int) = (n : Int) - 1 ∧ s ≠ [] then [leafT 130 s] else if 0 < (j : Int) ∧ (j : Int) < (n : Int) - 1 then [leafT 129 s] else []
mutual
def condT : Flt → Tlv
  | ⟨k, t, v, ps, ks⟩ => if k = 1 ∨ k = 2 ∨ k = 3 then nodeT (159 + k) (condTs ks) else if k = 4 then nodeT 163 [strT t, strT v] else if k = 6 then nodeT 165 [strT t, strT v] else if k = 7 then nodeT 166 [strT t, strT v] else if k = 8 then leafT 135 t
    else nodeT 164 [strT t, nodeT 48 (flatI (partT ps.length) 0 ps)]
def condTs : List Flt → List Tlv
  | [] => []
  | x :: r => condT x :: condTs r
end
theorem condTs_map : ∀ l : List Flt, condTs l = l.map condT
  | [] => rfl
  | x :: r => by simp [condTs, condTs_map r]
theorem app_tlv (acc : List Tlv) (t : Tlv) (h : acc.length ≤ 1073741824) : app 3 48 (dTs acc) [[D.int .i64 t.f0, D.str t.f1, D.list (dTs t.f2)]] = some (dTs (acc ++ [t])) := by
  rw [app_eq (by rw [dTs_len]; simp only [List.length_cons, List.length_nil]; omega) (by simp), dTs_append]
  have : dTs [t] = [[D.int .i64 t.f0, D.str t.f1, D.list (dTs t.f2)]] := by simp [dTs, dT_eq]
  rw [this]
theorem dTs_1 (a : Tlv) : [[D.int .i64 a.f0, D.str a.f1, D.list (dTs a.f2)]] = dTs [a] := by simp [dTs, dT_eq]
theorem dTs_2 (a b : Tlv) : [[D.int .i64 a.f0, D.str a.f1, D.list (dTs a.f2)], [D.int .i64 b.f0, D.str b.f1, D.list (dTs b.f2)]] = dTs [a, b] := by simp [dTs, dT_eq]
theorem dTs_3 (a b c : Tlv) : [[D.int .i64 a.f0, D.str a.f1, D.list (dTs a.f2)], [D.int .i64 b.f0, D.str b.f1, D.list (dTs b.f2)], [D.int .i64 c.f0, D.str c.f1, D.list (dTs c.f2)]] = dTs [a, b, c] := by simp [dTs, dT_eq]
theorem tup_node (tag : Int) (l : List Tlv) : ((tag, ([] : List UInt8), dTs l, ()) : Int × List UInt8 × List (List D) × Unit) = tup (nodeT tag l) := rfl
theorem tup_leaf (tag : Int) (s : List UInt8) : ((tag, s, ([] : List (List D)), ()) : Int × List UInt8 × List (List D) × Unit) = tup (leafT tag s) := rfl
section
variable {call : Oracle} {lp : Loops} (hW : Fix Tryz.prog hs call lp)
include hW
theorem tagged_eq (tag : Int) (s : List UInt8) : msg_tagged.f call tag s = some (tup (leafT tag s), ()) := by rw [msg_tagged.eq hW]; rfl
theorem str_eq (s : List UInt8) : msg_str.f call s = some (tup (strT s), ()) := by rw [msg_str.eq hW, tagged_eq hW]; rfl
theorem num_eq (tag n : Int) (h0 : -9223372036854775808 ≤ n) (h1 : n ≤ 9223372036854775807) : msg_num.f call tag n = some (tup (numT tag n), ()) := by rw [msg_num.eq hW, Int_eq hW n h0 h1]; simp only [Option.bind_some, tagged_eq hW]; rfl
theorem is_eq (b : Bool) : msg_is.f call b = some (tup (isT b), ()) := by
  rw [msg_is.eq hW, tagged_eq hW, tagged_eq hW]
  cases b <;> rfl
theorem all_eq (tag : Int) (l : List (List D)) : msg_all.f call tag l = some ((tag, [], (), ()), (l, ())) := msg_all.eq hW tag l
theorem strsT_eq (tag : Int) (l : List (List UInt8)) (hl : l.length ≤ 1073741824) : msg_strs.f call tag (dSs l) = some (tup (strsT tag l), ()) := by
  rw [msg_strs.eq hW, all_eq hW, dSs_len]
  simp only [Option.bind_some]
  have := loop_map (L := fun i acc => msg_strs.l3 call lp (dSs l) (l.length : Int) i (0, [], [], ()) (tag, [], ()) (dTs acc)) (xs := l) (f := strT) (e := fun acc => (tup (nodeT tag acc), ())) (fun j h acc ha => by
    rw [msg_strs.l3.eq hW]
    simp only [Bool.cond_decide]
    rw [if_pos (by omega), ix_str l j h]
    simp only [Option.bind_some, dec_str, str_eq hW]
    rw [app_tlv acc (strT l[j]) (by omega), w64 (x := (j : Int) + 1) (by omega) (by omega)]
    rfl) (fun acc ha => by
    rw [msg_strs.l3.eq hW]
    simp only [Bool.cond_decide]
    rw [if_neg (by omega)])
  exact this
theorem attrT_eq (t : List UInt8) (vs : List (List UInt8)) (hl : vs.length ≤ 1073741824) : msg_attr.f call t (dSs vs) = some (tup (attrT t vs), ()) := by
  rw [msg_attr.eq hW, str_eq hW, strsT_eq hW _ _ hl]
  simp only [Option.bind_some]
  rw [dTs_2 (strT t) (strsT 49 vs), all_eq hW]
  rfl
theorem entryT_eq (tag : Int) (dn : List UInt8) (la : List Att) (hl : sAs la ≤ 1073741824) : msg_entry.f call tag (dn, dAs la, ()) = some (tup (entryT tag dn la), ()) := by
  have hln := sAs_len la
  rw [msg_entry.eq hW, all_eq hW]
  simp only [Option.bind_some, dAs_len]
  have := loop_map (L := fun i acc => msg_entry.l3 call lp tag (dAs la) (la.length : Int) i (dn, dAs la, ()) (0, [], [], ()) (48, [], ()) (dTs acc)) (xs := la) (f := fun a => attrT a.t a.vs) (e := fun acc => (tup (nodeT tag [strT dn, nodeT 48 acc]), ())) (fun j h acc ha => by
    have h1 := sAs_mem _ _ (List.getElem_mem h)
    have h2 := sS_len la[j].vs
    rw [msg_entry.l3.eq hW]
    simp only [Bool.cond_decide]
    rw [if_pos (by omega), ix_att la j h]
    simp only [Option.bind_some, dec_att]
    rw [attrT_eq hW _ _ (by omega)]
    simp only [Option.bind_some]
    rw [app_tlv acc (attrT la[j].t la[j].vs) (by omega), w64 (x := (j : Int) + 1) (by omega) (by omega)]
    rfl) (fun acc ha => by
    rw [msg_entry.l3.eq hW]
    simp only [Bool.cond_decide]
    rw [if_neg (by omega), str_eq hW]
    simp only [Option.bind_some]
    rw [dTs_2 (strT dn) (nodeT 48 acc), all_eq hW]
    rfl)
  exact this
theorem parts_eq (f : Flt) (hl : f.ps.length ≤ 1073741824) : msg_condition.l22 call lp (dSs f.ps) (f.ps.length : Int) 0 (tupF f) (0, [], [], ()) (48, [], ()) [] = some (tup (nodeT 164 [strT f.t, nodeT 48 (flatI (partT f.ps.length) 0 f.ps)]), ()) := by
  have := loop_flat (L := fun i acc => msg_condition.l22 call lp (dSs f.ps) (f.ps.length : Int) i (tupF f) (0, [], [], ()) (48, [], ()) (dTs acc)) (xs := f.ps) (g := partT f.ps.length) (e := fun acc => (tup (nodeT 164 [strT f.t, nodeT 48 acc]), ())) (fun j x => by unfold partT; repeat (first | split | simp)) (fun j h acc ha => by
    rw [msg_condition.l22.eq hW]
    simp only [Bool.cond_decide, dSs_len]
    rw [if_pos (by omega), ix_str f.ps j h]
    simp only [Option.bind_some, dec_str, tagged_eq hW]
    rw [w64 (x := (j : Int) + 1) (by omega) (by omega), w64 (x := (f.ps.length : Int) - 1) (by omega) (by omega)]
    unfold partT
    by_cases c : f.ps[j] = []
    · rw [if_pos c, if_pos c, List.append_nil]
    · rw [if_neg c, if_neg c]
      by_cases c1 : (j : Int) = 0
      · rw [if_pos c1, if_pos c1, app_tlv acc (leafT 128 f.ps[j]) (by omega)]; rfl
      · rw [if_neg c1, if_neg c1]
        by_cases c2 : (j : Int) = (f.ps.length : Int) - 1
        · rw [if_pos c2, if_pos c2, app_tlv acc (leafT 130 f.ps[j]) (by omega)]; rfl
        · rw [if_neg c2, if_neg c2, app_tlv acc (leafT 129 f.ps[j]) (by omega)]; rfl) (fun acc ha => by
    rw [msg_condition.l22.eq hW]
    simp only [Bool.cond_decide]
    rw [if_neg (by omega), str_eq hW]
    simp only [Option.bind_some]
    rw [dTs_2 (strT f.t) (nodeT 48 acc), all_eq hW]
    rfl)
  exact this
theorem condT_eq : ∀ (n : Nat) (f : Flt), sF f ≤ n → sF f ≤ 1073741824 → msg_condition.f call (tupF f) = some (tup (condT f), ()) := by
  intro n
  induction n with
  | zero => intro f h; have := sF_pos f; omega
  | succ n ih =>
    intro f hn hs
    have he := sF_eq f
    have hp := sS_len f.ps
    have hk := sFs_len f.ks
    have hkids : ∀ tag : Int, msg_condition.l7 call lp (dFs f.ks) (f.ks.length : Int) 0 (0, [], [], ()) (tag, [], ()) [] = some (tup (nodeT tag (condTs f.ks)), ()) := by
      intro tag
      have := loop_map (L := fun i acc => msg_condition.l7 call lp (dFs f.ks) (f.ks.length : Int) i (0, [], [], ()) (tag, [], ()) (dTs acc)) (xs := f.ks) (f := condT) (e := fun acc => (tup (nodeT tag acc), ())) (fun j h acc ha => by
        have h1 := sFs_mem _ _ (List.getElem_mem h)
        rw [msg_condition.l7.eq hW]
        simp only [Bool.cond_decide]
        rw [if_pos (by omega), ix_flt f.ks j h]
        simp only [Option.bind_some, dec_flt]
        rw [ih _ (by omega) (by omega)]
        simp only [Option.bind_some]
        rw [app_tlv acc (condT f.ks[j]) (by omega), w64 (x := (j : Int) + 1) (by omega) (by omega)]
        rfl) (fun acc ha => by
        rw [msg_condition.l7.eq hW]
        simp only [Bool.cond_decide]
        rw [if_neg (by omega)])
      rw [condTs_map]
      exact this
    have hparts := parts_eq hW f (by omega)
    have hstrs : ∀ (tag : Int) (a b : List UInt8), msg_strs.f call tag [[D.str a], [D.str b]] = some (tup (nodeT tag [strT a, strT b]), ()) := fun tag a b => strsT_eq hW tag [a, b] (by simp)
    rw [msg_condition.eq hW]
    simp only [all_eq hW, hstrs, tagged_eq hW, Option.bind_some, dSs_len, dFs_len]
    obtain ⟨k, t, v, ps, ks⟩ := f
    simp only at *
    simp only [condT]
    have hw : ∀ k : Int, 0 ≤ k → k ≤ 10 → IntKind.wrap .i64 (IntKind.wrap .i64 (160 + k) - 1) = 159 + k := fun k h0 h1 => by
      rw [w64 (x := 160 + k) (by omega) (by omega), w64 (by omega) (by omega)]; omega
    by_cases h1 : k = 1
    · subst h1
      simp only [decide_true, cond_true, Int.reduceEq, decide_false, cond_false, true_or, if_true]
      rw [hw 1 (by omega) (by omega), hkids]
    · by_cases h2 : k = 2
      · subst h2
        simp only [decide_true, cond_true, Int.reduceEq, decide_false, cond_false, true_or, or_true, if_true]
        rw [hw 2 (by omega) (by omega), hkids]
      · by_cases h3 : k = 3
        · subst h3
          simp only [decide_true, cond_true, Int.reduceEq, decide_false, cond_false, or_self, or_true, if_true, if_false]
          rw [hw 3 (by omega) (by omega), hkids]
        · simp only [h1, h2, h3, decide_false, cond_false, or_self, if_false]
          by_cases h4 : k = 4
          · simp only [h4, decide_true, cond_true, if_true]
          · by_cases h6 : k = 6
            · subst h6
              simp only [decide_true, cond_true, Int.reduceEq, decide_false, cond_false, if_true, if_false]
            · by_cases h7 : k = 7
              · subst h7
                simp only [decide_true, cond_true, Int.reduceEq, decide_false, cond_false, if_true, if_false]
              · by_cases h8 : k = 8
                · subst h8
                  simp only [decide_true, cond_true, Int.reduceEq, decide_false, cond_false, if_true, if_false]
                · simp only [h4, h6, h7, h8, decide_false, cond_false, if_false]
                  exact hparts
end
end Go.Proofs.YtcpidokhkcmdfaaGreat.B
