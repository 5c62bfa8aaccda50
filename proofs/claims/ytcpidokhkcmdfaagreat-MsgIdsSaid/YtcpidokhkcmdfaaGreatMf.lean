/- Messages by numbers: they come, and are not great. Conditions: those of each theorem; Facts of closed calls. -/
import Derived.Test.YtcpidokhkcmdfaaGreatMe
namespace Go.Proofs.YtcpidokhkcmdfaaGreat.B
open Go Go.Proofs Go.Proofs.YtcpidokhkcmdfaaGreat.I
set_option linter.unusedVariables false
set_option linter.unusedSimpArgs false
set_option maxRecDepth 100000
/-- A message that is not great, of a kind. -/
def QM (r : MgT × Unit) : Prop := ∃ g : Mg, r = (tupM g, ()) ∧ sG g ≤ 10000 ∧ 1 ≤ g.k ∧ g.k ≤ 11
theorem kind_yes {x : Int} (h : By x) : 1 ≤ IntKind.wrap .i64 (1 + Int.tmod x 11) ∧ IntKind.wrap .i64 (1 + Int.tmod x 11) ≤ 11 := by
  have := tmr h.1 (c := 11) (by decide)
  rw [w64 (by omega) (by omega)]
  omega
theorem u8r {x : Int} (h : By x) : By (IntKind.wrap .u8 x) := by
  rw [wu8]
  have := h.1; have := h.2
  exact ⟨by omega, by omega⟩
section
variable {call : Oracle} {lp : Loops} (hW : Fix Tryz.prog hs call lp)
include hW
theorem mods_kept (y : MgT) (i K : Int) (dn : List UInt8) (hK : 1 ≤ K ∧ K ≤ 11) (hdn : dn.length ≤ 60) : ∀ (m : Nat) (x : Int) (ms : List Mdf), 0 ≤ x → x ≤ ms.length → ms.length - x.toNat ≤ m → ms.length ≤ 5 → sMs ms ≤ 1000 → Yes (brooklaw19_Make.l23 call lp x y (i, K, dn, [], 0, 0, 0, [], [], [], [], [], [], [], [], false, [], 0, 0, 0, [], [], ()) (dMs ms)) QM := by
  intro m
  have fin : ∀ ms : List Mdf, sMs ms ≤ 1000 → QM ((i, K, dn, [], 0, 0, 0, [], [], [], [], [], dMs ms, [], [], [], false, [], 0, 0, 0, [], [], ()), ()) := fun ms h =>
    ⟨⟨i, K, dn, [], 0, 0, ⟨0, [], [], [], []⟩, [], ms, [], [], [], false, [], 0, 0, 0, [], []⟩, rfl, by simp only [sG, sF, sFs, sS, sAs, List.length_nil]; omega, hK⟩
  induction m with
  | zero =>
    intro x ms h0 h1 hm h5 hs
    rw [brooklaw19_Make.l23.eq hW, dMs_len, decide_eq_false (show ¬ x < (ms.length : Int) by omega), cond_false]
    exact .some (fin ms hs)
  | succ m ih =>
    intro x ms h0 h1 hm h5 hs
    rw [brooklaw19_Make.l23.eq hW, dMs_len]
    refine .cond (fun hc => ?_) fun _ => .some (fin ms hs)
    have hc : x < (ms.length : Int) := of_decide_eq_true hc
    have hlt : x.toNat < ms.length := by omega
    have ha : at_ (dMs ms) x = some x.toNat := by unfold at_; rw [if_pos (by rw [dMs_len]; omega)]
    have hg : (dMs ms)[x.toNat]? = some (dM ms[x.toNat]) := by simp [dMs, hlt]
    have hd : decs [.int .i64] (sub (dM ms[x.toNat]) 0 1) = some (ms[x.toNat].k, ()) := rfl
    simp only [ha, hg, hd, Option.bind_some]
    rw [w64 (x := x + 1) (by omega) (by omega)]
    have hset : List.set (dMs ms) x.toNat (splice (dM ms[x.toNat]) 0 [D.int .i64 (mnv ms[x.toNat].k 3)]) = dMs (ms.set x.toNat ⟨mnv ms[x.toNat].k 3, ms[x.toNat].t, ms[x.toNat].vs⟩) := by
      unfold dMs
      rw [List.map_set]
      rfl
    rw [hset]
    have hsz : ∀ (ms : List Mdf) (j : Nat) (a : Int) (h : j < ms.length), sMs (ms.set j ⟨a, ms[j].t, ms[j].vs⟩) = sMs ms := by
      intro ms
      induction ms with
      | nil => intro j a h; exact absurd h (by simp)
      | cons b r ihr =>
        intro j a h
        cases j with
        | zero => rfl
        | succ j => simp only [List.set_cons_succ, sMs, List.getElem_cons_succ]; rw [ihr j a (by simpa using h)]
    exact ih (x + 1) _ (by omega) (by rw [List.length_set]; omega) (by rw [List.length_set]; omega) (by rw [List.length_set]; exact h5) (by rw [hsz _ _ _ hlt]; exact hs)
theorem s_ask {l f : List Int} {s : List UInt8} (hl : bytesI l) (hf : bytesI f) (hf2 : f.length ≤ 10) (hs : s.length ≤ 60) {β : Type} {F : MgT × Unit → Option β} {Q : β → Prop} (k : ∀ g : Mg, sG g ≤ 8200 → Yes (F (tupM g, ())) Q) : Yes ((brooklaw11_Ask.f call (rowI l) (rowI f) s).bind F) Q := (Ask_yes hW l f s hl hf hf2 hs).bind fun r ⟨g, hr, hg⟩ => by rw [hr]; exact k g hg
theorem s_mods {f : List Int} (hf : bytesI f) (hf2 : f.length ≤ 10) {β : Type} {F : List (List D) × Unit → Option β} {Q : β → Prop} (k : ∀ ms : List Mdf, ms.length ≤ 5 → sMs ms ≤ 1000 → Yes (F (dMs ms, ())) Q) : Yes ((brooklaw9_Mods.f call (rowI f)).bind F) Q := (Mods_yes hW f hf hf2).bind fun r ⟨g, hr, h1, h2⟩ => by rw [hr]; exact k g h1 h2
theorem s_entry (hF : Facts call) {i n : Int} (hi : By i) (hn : By n) {β : Type} {F : (List UInt8 × List (List D) × Unit) × Unit → Option β} {Q : β → Prop} (k : ∀ (d : List UInt8) (l : List Att), d.length ≤ 200 → sAs l ≤ 4000 → Yes (F ((d, dAs l, ()), ())) Q) : Yes ((brooklaw8_Entry.f call i n).bind F) Q := (Entry_yes hW hF i n hi hn).bind fun r ⟨d, l, hr, h1, h2⟩ => by rw [hr]; exact k d l h1 h2
theorem s_make4 {f : List Int} (hf : bytesI f) (hf2 : f.length ≤ 10) {β : Type} {F : (List UInt8 × List (List D) × Unit) × Unit → Option β} {Q : β → Prop} (k : ∀ (d : List UInt8) (l : List Att), d.length ≤ 200 → sAs l ≤ 4000 → Yes (F ((d, dAs l, ()), ())) Q) : Yes ((brooklaw4_Make.f call (rowI f)).bind F) Q := (Make4_yes hW f hf hf2).bind fun r ⟨d, l, hr, h1, h2⟩ => by rw [hr]; exact k d l h1 h2
set_option maxHeartbeats 4000000 in
theorem Make_loop (hF : Facts call) (l f : List Int) (s : List UInt8) (hl : bytesI l) (hf : bytesI f) (hf2 : f.length ≤ 10) (hs : s.length ≤ 60) (y : MgT) : ∀ (m : Nat) (x8 : Int) (k : List (List D)), 0 ≤ x8 → x8 ≤ 6 → (6 - x8).toNat ≤ m → KOk 6 k → Yes (brooklaw19_Make.l3 call lp (rowI l) (rowI f) s x8 y k) QM := by
  intro m
  induction m with
  | zero =>
    intro x8 k h0 h1 hm hk
    rw [brooklaw19_Make.l3.eq hW, rowI_len]
    refine Yes.bind (P := fun z => z = false) (.cond (fun hc => absurd (of_decide_eq_true hc) (by omega)) fun _ => .some rfl) fun z hz => ?_
    subst hz
    rw [cond_false]
    refine Yes.bind (Names_yes hW) fun t6 ⟨ht6, hl6⟩ => ?_
    refine yes_read hk ⟨by decide, by decide⟩ fun t9 ht9 => ?_
    refine yes_ix ht6 pS.sz (by rw [hl6]; exact tmr ht9.1 (by decide)) fun e he => yes_str he fun t11 ht11 => ?_
    refine yes_read hk ⟨by decide, by decide⟩ fun t14 ht14 => ?_
    refine yes_read hk ⟨by decide, by decide⟩ fun t17 ht17 => ?_
    have hK := kind_yes ht17
    simp only []
    generalize IntKind.wrap .i64 (1 + Int.tmod t17 11) = K at hK ⊢
    clear hm h0 h1 ht6 hl6 he ht9 t9 e
    have fin : ∀ {r : MgT × Unit}, (∃ g : Mg, r = (tupM g, ()) ∧ sG g ≤ 10000 ∧ g.k = K) → Yes (some r) QM := fun ⟨g, h1, h2, h3⟩ => .some ⟨g, h1, h2, by rw [h3]; exact hK⟩
    repeat' (first
      | exact fin ⟨⟨_, _, _, _, _, _, ⟨_, _, _, [], []⟩, [], [], _, [], _, _, _, _, _, _, _, []⟩, rfl, (by simp only [sG, sF, sFs, sS, sMs, sAs, List.length_nil]; omega), rfl⟩
      | exact fin ⟨⟨_, _, _, _, _, _, ⟨_, _, _, [], []⟩, [], [], _, [], _, _, _, _, _, _, _, [_, _]⟩, rfl, (by simp only [sG, sF, sFs, sS, sMs, sAs, List.length_nil, List.length_cons]; omega), rfl⟩
      | refine yes_read hk ⟨by decide, by decide⟩ fun v hv => ?_
      | refine s_pre hW (by decide) (by first | exact sm_by (by assumption) | exact sm_tm (by assumption) (by decide)) fun w hw => ?_
      | refine s_mods hW hf hf2 fun ms hm1 hm2 => mods_kept hW _ _ _ _ hK (by omega) 5 0 ms (by omega) (by omega) (by omega) hm1 hm2
      | (refine s_make4 hW hf hf2 fun d a hd ha => ?_; exact fin ⟨⟨_, _, _, _, _, _, ⟨_, _, _, [], []⟩, [], [], _, a, _, _, _, _, _, _, _, []⟩, rfl, (by simp only [sG, sF, sFs, sS, sMs, List.length_nil]; omega), rfl⟩)
      | (refine s_entry hW hF (by assumption) (u8r (by assumption)) fun d a hd ha => ?_; exact fin ⟨⟨_, _, _, _, _, _, ⟨_, _, _, [], []⟩, [], [], _, a, _, _, _, _, _, _, _, []⟩, rfl, (by simp only [sG, sF, sFs, sS, sMs, List.length_nil]; omega), rfl⟩)
      | refine yes_row (p := pS 60) (by repeat' (first | exact Tab.nil | refine Tab.cons ?_ ?_ | exact pS.mk (by first | decide | omega))) (by first | exact tmr (c := 4) (And.left (by assumption)) (by decide) | exact tmr (c := 4) (w64r (tdr (by assumption) (by decide))).1 (by decide)) fun e he => yes_str he fun w hw => ?_
      | refine yes_row (p := pI) (by repeat' (first | exact Tab.nil | refine Tab.cons ?_ ?_ | exact pI.mk ⟨by decide, by decide⟩)) (tmr (c := 7) (And.left (by assumption)) (by decide)) fun e he => yes_int he fun w hw => ?_
      | refine Yes.cond (fun _ => ?_) fun _ => ?_)
    · refine s_ask hW hl hf hf2 hs fun g hg => ?_
      refine yes_read hk ⟨by decide, by decide⟩ fun v hv => ?_
      refine .some ⟨⟨v, 3, g.dn, g.val, g.scope, g.limit, g.flt, g.types, g.mods, g.edn, g.attrs, g.rdn, g.old, g.typ, g.n, g.ofk, g.code, g.text, g.refs⟩, rfl, ?_, by show (1 : Int) ≤ 3; decide, by show (3 : Int) ≤ 11; decide⟩
      simp only [sG] at hg ⊢
      omega
  | succ m ih =>
    intro x8 k h0 h1 hm hk
    by_cases hc : x8 < 6 ∧ x8 < l.length
    · rw [brooklaw19_Make.l3.eq hW, rowI_len]
      simp only [decide_eq_true hc.1, decide_eq_true hc.2, cond_true, Option.bind_some]
      refine yes_byte hl ⟨h0, hc.2⟩ fun v hv => ?_
      refine yes_keep hk ⟨h0, hc.1⟩ (w64r hv) fun k' hk' => ?_
      rw [w64 (x := x8 + 1) (by omega) (by omega)]
      exact ih (x8 + 1) k' (by omega) (by omega) (by omega) hk'
    · have hz : (bif decide (x8 < 6) then some (decide (x8 < ((rowI l).length : Int))) else some false) = (bif decide ((6 : Int) < 6) then some (decide ((6 : Int) < ((rowI l).length : Int))) else some false) := by
        rw [rowI_len]
        by_cases h4 : x8 < 6
        · rw [decide_eq_true h4, decide_eq_false (show ¬ x8 < (l.length : Int) from fun h => hc ⟨h4, h⟩)]; rfl
        · rw [decide_eq_false h4]; rfl
      have := ih 6 k (by omega) (by omega) (by omega) hk
      rw [brooklaw19_Make.l3.eq hW] at this ⊢
      rw [hz]
      simp only [show decide ((6 : Int) < 6) = false from rfl, cond_false, Option.bind_some] at this ⊢
      exact this
theorem Make_yes (hF : Facts call) (l f : List Int) (s : List UInt8) (hl : bytesI l) (hf : bytesI f) (hf2 : f.length ≤ 10) (hs : s.length ≤ 60) : Yes (brooklaw19_Make.f call (rowI l) (rowI f) s) QM := by
  rw [brooklaw19_Make.eq hW]
  exact Make_loop hW hF l f s hl hf hf2 hs _ 6 0 _ (by omega) (by omega) (by omega) (KOk.zero 6)
end
end Go.Proofs.YtcpidokhkcmdfaaGreat.B
