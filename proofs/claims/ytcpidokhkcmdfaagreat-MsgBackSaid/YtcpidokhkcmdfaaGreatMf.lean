/- Messages by numbers: they come, and are not great. Conditions: those of each theorem; Facts of closed calls. -/
import Derived.Test.YtcpidokhkcmdfaaGreatMe
namespace Go.Proofs.YtcpidokhkcmdfaaGreat.B
open Go Go.Proofs Go.Proofs.YtcpidokhkcmdfaaGreat.I
set_option linter.unusedVariables false
set_option linter.unusedSimpArgs false
set_option maxRecDepth 100000
/-- A message that is not great, of a kind. -/
def QM (r : MgT × Unit) : Prop := ∃ g : Mg, r = (tupM g, ()) ∧ sG g ≤ 10000 ∧ 1 ≤ g.k ∧ g.k ≤ 11 ∧ By g.id ∧ (g.k ≠ 3 → kindB g = true ∧ onlyM g = g)
theorem kind_yes {x : Int} (h : By x) : 1 ≤ IntKind.wrap .i64 (1 + Int.tmod x 11) ∧ IntKind.wrap .i64 (1 + Int.tmod x 11) ≤ 11 := by
  have := tmr h.1 (c := 11) (by decide)
  rw [w64 (by omega) (by omega)]
  omega
theorem u8r {x : Int} (h : By x) : By (IntKind.wrap .u8 x) := by
  rw [wu8]
  have := h.1; have := h.2
  exact ⟨by omega, by omega⟩
/-- A kind that is answered. -/
def pD (e : List D) : Prop := ∃ n, e = [D.int .i64 n] ∧ 0 < doneK n
section
variable {call : Oracle} {lp : Loops} (hW : Fix Tryz.prog hs call lp)
include hW
theorem mods_kept (y : MgT) (i : Int) (hi : By i) (dn : List UInt8) (hdn : dn.length ≤ 60) : ∀ (m : Nat) (x : Int) (ms : List Mdf), 0 ≤ x → x ≤ ms.length → ms.length - x.toNat ≤ m → ms.length ≤ 5 → sMs ms ≤ 1000 → (∀ a ∈ ms, 1 ≤ a.k) → (∀ (j : Nat) (h : j < ms.length), (j : Int) < x → ms[j].k ≤ 3) → Yes (brooklaw19_Make.l23 call lp x y (i, 4, dn, [], 0, 0, 0, [], [], [], [], [], [], [], [], false, [], 0, 0, 0, [], [], ()) (dMs ms)) QM := by
  intro m
  have fin : ∀ ms : List Mdf, sMs ms ≤ 1000 → (∀ a ∈ ms, 1 ≤ a.k) → (∀ a ∈ ms, a.k ≤ 3) → QM ((i, 4, dn, [], 0, 0, 0, [], [], [], [], [], dMs ms, [], [], [], false, [], 0, 0, 0, [], [], ()), ()) := fun ms h h1 h3 =>
    ⟨⟨i, 4, dn, [], 0, 0, ⟨0, [], [], [], []⟩, [], ms, [], [], [], false, [], 0, 0, 0, [], []⟩, rfl, by simp only [sG, sF, sFs, sS, sAs, List.length_nil]; omega, by show (1 : Int) ≤ 4; decide, by show (4 : Int) ≤ 11; decide, hi, fun _ => ⟨by
      show (!ms.any fun x => decide (x.k < 1) || decide (3 < x.k)) = true
      rw [Bool.not_eq_true', List.any_eq_false]
      intro a ha
      have := h1 a ha; have := h3 a ha
      simp only [Bool.or_eq_true, decide_eq_true_eq]
      omega, rfl⟩⟩
  induction m with
  | zero =>
    intro x ms h0 h1 hm h5 hs ha1 ha3
    rw [brooklaw19_Make.l23.eq hW, dMs_len, decide_eq_false (show ¬ x < (ms.length : Int) by omega), cond_false]
    refine .some (fin ms hs ha1 fun a ha => ?_)
    obtain ⟨j, hj, rfl⟩ := List.getElem_of_mem ha
    exact ha3 j hj (by omega)
  | succ m ih =>
    intro x ms h0 h1 hm h5 hs ha1 ha3
    rw [brooklaw19_Make.l23.eq hW, dMs_len]
    refine .cond (fun hc => ?_) fun hc => .some (fin ms hs ha1 fun a ha => ?_)
    rotate_left
    · have hc : ¬ x < (ms.length : Int) := of_decide_eq_false hc
      obtain ⟨j, hj, rfl⟩ := List.getElem_of_mem ha
      exact ha3 j hj (by omega)
    have hc : x < (ms.length : Int) := of_decide_eq_true hc
    have hlt : x.toNat < ms.length := by omega
    have ha : at_ (dMs ms) x = some x.toNat := by unfold at_; rw [if_pos (by rw [dMs_len]; omega)]
    have hg : (dMs ms)[x.toNat]? = some (dM ms[x.toNat]) := by simp [dMs, hlt]
    have hd : decs [.int .i64] (sub (dM ms[x.toNat]) 0 1) = some (ms[x.toNat].k, ()) := rfl
    simp only [ha, hg, hd, Option.bind_some]
    rw [w64 (x := x + 1) (by omega) (by omega)]
    have hset : List.set (dMs ms) x.toNat (splice (dM ms[x.toNat]) 0 [D.int .i64 (mnv ms[x.toNat].k 3)]) = dMs (ms.set x.toNat ⟨mnv ms[x.toNat].k 3, ms[x.toNat].t, ms[x.toNat].vs⟩) := by
      unfold dMs
      rw [List.map_set]
      rfl
    rw [hset]
    have hsz : ∀ (ms : List Mdf) (j : Nat) (a : Int) (h : j < ms.length), sMs (ms.set j ⟨a, ms[j].t, ms[j].vs⟩) = sMs ms := by
      intro ms
      induction ms with
      | nil => intro j a h; exact absurd h (by simp)
      | cons b r ihr =>
        intro j a h
        cases j with
        | zero => rfl
        | succ j => simp only [List.set_cons_succ, sMs, List.getElem_cons_succ]; rw [ihr j a (by simpa using h)]
    have hk := ha1 _ (List.getElem_mem hlt)
    have hmn : 1 ≤ mnv ms[x.toNat].k 3 ∧ mnv ms[x.toNat].k 3 ≤ 3 := by unfold mnv; split <;> omega
    refine ih (x + 1) _ (by omega) (by rw [List.length_set]; omega) (by rw [List.length_set]; omega) (by rw [List.length_set]; exact h5) (by rw [hsz _ _ _ hlt]; exact hs) ?_ ?_
    · intro a ha
      rcases List.mem_or_eq_of_mem_set ha with ha | rfl
      · exact ha1 a ha
      · exact hmn.1
    · intro j hj hjx
      rw [List.length_set] at hj
      rw [List.getElem_set]
      split
      · exact hmn.2
      · exact ha3 j hj (by omega)
theorem s_ask {l f : List Int} {s : List UInt8} (hl : bytesI l) (hf : bytesI f) (hf2 : f.length ≤ 10) (hs : s.length ≤ 60) {β : Type} {F : MgT × Unit → Option β} {Q : β → Prop} (k : ∀ g : Mg, sG g ≤ 8200 → Yes (F (tupM g, ())) Q) : Yes ((brooklaw11_Ask.f call (rowI l) (rowI f) s).bind F) Q := (Ask_yes hW l f s hl hf hf2 hs).bind fun r ⟨g, hr, hg⟩ => by rw [hr]; exact k g hg
theorem s_mods {f : List Int} (hf : bytesI f) (hf2 : f.length ≤ 10) {β : Type} {F : List (List D) × Unit → Option β} {Q : β → Prop} (k : ∀ ms : List Mdf, ms.length ≤ 5 → sMs ms ≤ 1000 → (∀ a ∈ ms, 1 ≤ a.k) → Yes (F (dMs ms, ())) Q) : Yes ((brooklaw9_Mods.f call (rowI f)).bind F) Q := (Mods_yes hW f hf hf2).bind fun r ⟨g, hr, h1, h2, h3⟩ => by rw [hr]; exact k g h1 h2 h3
theorem s_entry (hF : Facts call) {i n : Int} (hi : By i) (hn : By n) {β : Type} {F : (List UInt8 × List (List D) × Unit) × Unit → Option β} {Q : β → Prop} (k : ∀ (d : List UInt8) (l : List Att), d.length ≤ 200 → sAs l ≤ 4000 → Yes (F ((d, dAs l, ()), ())) Q) : Yes ((brooklaw8_Entry.f call i n).bind F) Q := (Entry_yes hW hF i n hi hn).bind fun r ⟨d, l, hr, h1, h2⟩ => by rw [hr]; exact k d l h1 h2
theorem s_make4 {f : List Int} (hf : bytesI f) (hf2 : f.length ≤ 10) {β : Type} {F : (List UInt8 × List (List D) × Unit) × Unit → Option β} {Q : β → Prop} (k : ∀ (d : List UInt8) (l : List Att), d.length ≤ 200 → sAs l ≤ 4000 → Yes (F ((d, dAs l, ()), ())) Q) : Yes ((brooklaw4_Make.f call (rowI f)).bind F) Q := (Make4_yes hW f hf hf2).bind fun r ⟨d, l, hr, h1, h2⟩ => by rw [hr]; exact k d l h1 h2
set_option maxHeartbeats 4000000 in
theorem Make_loop (hF : Facts call) (l f : List Int) (s : List UInt8) (hl : bytesI l) (hf : bytesI f) (hf2 : f.length ≤ 10) (hs : s.length ≤ 60) (y : MgT) : ∀ (m : Nat) (x8 : Int) (k : List (List D)), 0 ≤ x8 → x8 ≤ 6 → (6 - x8).toNat ≤ m → KOk 6 k → Yes (brooklaw19_Make.l3 call lp (rowI l) (rowI f) s x8 y k) QM := by
  intro m
  induction m with
  | zero =>
    intro x8 k h0 h1 hm hk
    rw [brooklaw19_Make.l3.eq hW, rowI_len]
    refine Yes.bind (P := fun z => z = false) (.cond (fun hc => absurd (of_decide_eq_true hc) (by omega)) fun _ => .some rfl) fun z hz => ?_
    subst hz
    rw [cond_false]
    refine Yes.bind (Names_yes hW) fun t6 ⟨ht6, hl6⟩ => ?_
    refine yes_read hk ⟨by decide, by decide⟩ fun t9 ht9 => ?_
    refine yes_ix ht6 pS.sz (by rw [hl6]; exact tmr ht9.1 (by decide)) fun e he => yes_str he fun t11 ht11 => ?_
    refine yes_read hk ⟨by decide, by decide⟩ fun t14 ht14 => ?_
    refine yes_read hk ⟨by decide, by decide⟩ fun t17 ht17 => ?_
    have hK := kind_yes ht17
    simp only []
    generalize IntKind.wrap .i64 (1 + Int.tmod t17 11) = K at hK ⊢
    clear hm h0 h1 ht6 hl6 he ht9 t9 e
    have fin : ∀ {r : MgT × Unit}, (∃ g : Mg, r = (tupM g, ()) ∧ sG g ≤ 10000 ∧ 1 ≤ g.k ∧ g.k ≤ 11 ∧ By g.id ∧ kindB g = true ∧ onlyM g = g) → Yes (some r) QM := fun ⟨g, h1, h2, h3, h4, h5, h6, h7⟩ => .some ⟨g, h1, h2, h3, h4, h5, fun _ => ⟨h6, h7⟩⟩
    have tab60 : ∀ {i : Int}, By i → 0 ≤ Int.tmod i 4 ∧ Int.tmod i 4 < 4 := fun h => tmr h.1 (by decide)
    rcases (show K = 1 ∨ K = 2 ∨ K = 3 ∨ K = 4 ∨ K = 5 ∨ K = 6 ∨ K = 7 ∨ K = 8 ∨ K = 9 ∨ K = 10 ∨ K = 11 by omega) with rfl | rfl | rfl | rfl | rfl | rfl | rfl | rfl | rfl | rfl | rfl <;> simp only [Int.reduceEq, decide_true, decide_false, cond_true, cond_false]
    · refine yes_read hk ⟨by decide, by decide⟩ fun v hv => ?_
      refine s_pre hW (by decide) (sm_tm hv (by decide)) fun w hw => ?_
      refine yes_read hk ⟨by decide, by decide⟩ fun v hv => ?_
      refine .cond (fun _ => ?_) fun _ => ?_
      · exact fin ⟨⟨t14, 1, [], [], 0, 0, zF, [], [], [], [], [], false, [], 0, 0, 0, [], []⟩, rfl, (by simp only [sG, sF, sFs, sS, sMs, sAs, zF, List.length_nil]; omega), by show (1 : Int) ≤ 1; decide, by show (1 : Int) ≤ 11; decide, ht14, rfl, rfl⟩
      · exact fin ⟨⟨t14, 1, t11, w, 0, 0, zF, [], [], [], [], [], false, [], 0, 0, 0, [], []⟩, rfl, (by simp only [sG, sF, sFs, sS, sMs, sAs, zF, List.length_nil]; omega), by show (1 : Int) ≤ 1; decide, by show (1 : Int) ≤ 11; decide, ht14, rfl, rfl⟩
    · exact fin ⟨⟨t14, 2, [], [], 0, 0, zF, [], [], [], [], [], false, [], 0, 0, 0, [], []⟩, rfl, (by simp only [sG, sF, sFs, sS, sMs, sAs, zF, List.length_nil]; omega), by show (1 : Int) ≤ 2; decide, by show (2 : Int) ≤ 11; decide, ht14, rfl, rfl⟩
    · refine s_ask hW hl hf hf2 hs fun g hg => ?_
      refine yes_read hk ⟨by decide, by decide⟩ fun v hv => ?_
      refine .some ⟨⟨v, 3, g.dn, g.val, g.scope, g.limit, g.flt, g.types, g.mods, g.edn, g.attrs, g.rdn, g.old, g.typ, g.n, g.ofk, g.code, g.text, g.refs⟩, rfl, ?_, by show (1 : Int) ≤ 3; decide, by show (3 : Int) ≤ 11; decide, hv, fun h => absurd rfl h⟩
      simp only [sG] at hg ⊢
      omega
    · exact s_mods hW hf hf2 fun ms hm1 hm2 hm3 => mods_kept hW _ t14 ht14 t11 (by omega) 5 0 ms (by omega) (by omega) (by omega) hm1 hm2 hm3 (fun j _ hj => absurd hj (by omega))
    · refine yes_read hk ⟨by decide, by decide⟩ fun v hv => ?_
      refine yes_read hk ⟨by decide, by decide⟩ fun v2 hv2 => ?_
      refine s_entry hW hF hv (u8r hv2) fun d a hd ha => ?_
      exact fin ⟨⟨t14, 5, [], [], 0, 0, zF, [], [], d, a, [], false, [], 0, 0, 0, [], []⟩, rfl, (by simp only [sG, sF, sFs, sS, sMs, zF, List.length_nil]; omega), by show (1 : Int) ≤ 5; decide, by show (5 : Int) ≤ 11; decide, ht14, rfl, rfl⟩
    · exact fin ⟨⟨t14, 6, t11, [], 0, 0, zF, [], [], [], [], [], false, [], 0, 0, 0, [], []⟩, rfl, (by simp only [sG, sF, sFs, sS, sMs, sAs, zF, List.length_nil]; omega), by show (1 : Int) ≤ 6; decide, by show (6 : Int) ≤ 11; decide, ht14, rfl, rfl⟩
    · refine yes_read hk ⟨by decide, by decide⟩ fun v hv => ?_
      refine s_pre hW (by decide) (sm_tm hv (by decide)) fun w hw => ?_
      refine yes_read hk ⟨by decide, by decide⟩ fun v hv => ?_
      exact fin ⟨⟨t14, 7, t11, [], 0, 0, zF, [], [], [], [], w, _, [], 0, 0, 0, [], []⟩, rfl, (by simp only [sG, sF, sFs, sS, sMs, sAs, zF, List.length_nil]; omega), by show (1 : Int) ≤ 7; decide, by show (7 : Int) ≤ 11; decide, ht14, rfl, rfl⟩
    · refine yes_read hk ⟨by decide, by decide⟩ fun v hv => ?_
      refine yes_row (p := pS 20) (by repeat' (first | exact Tab.nil | refine Tab.cons ?_ ?_ | exact pS.mk (by decide))) (tab60 hv) fun e he => yes_str he fun t52 h52 => ?_
      refine yes_read hk ⟨by decide, by decide⟩ fun v2 hv2 => ?_
      refine s_pre hW (by decide) (sm_by hv2) fun w57 h57 => ?_
      refine yes_read hk ⟨by decide, by decide⟩ fun v3 hv3 => ?_
      refine s_pre hW (by decide) (sm_tm hv3 (by decide)) fun w62 h62 => ?_
      refine yes_read hk ⟨by decide, by decide⟩ fun v4 hv4 => ?_
      refine yes_row (p := pS 60) (by repeat' (first | exact Tab.nil | refine Tab.cons ?_ ?_ | exact pS.mk (by first | decide | omega))) (tab60 (w64r (tdr hv4 (by decide)))) fun e he => yes_str he fun t68 h68 => ?_
      exact fin ⟨⟨t14, 8, t11, t68, 0, 0, zF, [], [], [], [], [], false, t52, 0, 0, 0, [], []⟩, rfl, (by simp only [sG, sF, sFs, sS, sMs, sAs, zF, List.length_nil]; omega), by show (1 : Int) ≤ 8; decide, by show (8 : Int) ≤ 11; decide, ht14, rfl, rfl⟩
    · refine yes_read hk ⟨by decide, by decide⟩ fun v hv => ?_
      exact fin ⟨⟨t14, 9, [], [], 0, 0, zF, [], [], [], [], [], false, [], v, 0, 0, [], []⟩, rfl, (by simp only [sG, sF, sFs, sS, sMs, sAs, zF, List.length_nil]; omega), by show (1 : Int) ≤ 9; decide, by show (9 : Int) ≤ 11; decide, ht14, (by show withinB v 2147483647 = true; unfold withinB; rw [decide_eq_true hv.1, decide_eq_true (by have := hv.2; omega)]; rfl), rfl⟩
    · refine s_make4 hW hf hf2 fun d a hd ha => ?_
      exact fin ⟨⟨t14, 10, [], [], 0, 0, zF, [], [], d, a, [], false, [], 0, 0, 0, [], []⟩, rfl, (by simp only [sG, sF, sFs, sS, sMs, zF, List.length_nil]; omega), by show (1 : Int) ≤ 10; decide, by show (10 : Int) ≤ 11; decide, ht14, rfl, rfl⟩
    · refine yes_read hk ⟨by decide, by decide⟩ fun v hv => ?_
      refine yes_row (p := pD) (by repeat' (first | exact Tab.nil | refine Tab.cons ?_ ?_ | exact ⟨_, rfl, by decide⟩)) (tmr (c := 7) hv.1 (by decide)) fun e he => ?_
      obtain ⟨o, rfl, ho⟩ := he
      rw [show decs [.int .i64] (sub [D.int .i64 o] 0 1) = some (o, ()) from rfl]
      simp only [Option.bind_some]
      refine yes_read hk ⟨by decide, by decide⟩ fun v2 hv2 => ?_
      have hcd := tmr (c := 100) hv2.1 (by decide)
      have hkb : (decide (0 < doneK o) && withinB (Int.tmod v2 100) 200) = true := by
        unfold withinB
        rw [decide_eq_true ho, decide_eq_true hcd.1, decide_eq_true (by omega)]; rfl
      refine yes_read hk ⟨by decide, by decide⟩ fun v3 hv3 => ?_
      refine .cond (fun _ => ?_) fun _ => ?_
      · exact fin ⟨⟨t14, 11, [], [], 0, 0, zF, [], [], [], [], [], false, [], 0, o, Int.tmod v2 100, s, [[108, 100, 97, 112, 58, 47, 47, 115, 101, 114, 118, 101, 114, 49, 47], s]⟩, rfl, (by simp only [sG, sF, sFs, sS, sMs, sAs, zF, List.length_nil, List.length_cons]; omega), by show (1 : Int) ≤ 11; decide, by show (11 : Int) ≤ 11; decide, ht14, hkb, rfl⟩
      · exact fin ⟨⟨t14, 11, [], [], 0, 0, zF, [], [], [], [], [], false, [], 0, o, Int.tmod v2 100, s, []⟩, rfl, (by simp only [sG, sF, sFs, sS, sMs, sAs, zF, List.length_nil]; omega), by show (1 : Int) ≤ 11; decide, by show (11 : Int) ≤ 11; decide, ht14, hkb, rfl⟩
  | succ m ih =>
    intro x8 k h0 h1 hm hk
    by_cases hc : x8 < 6 ∧ x8 < l.length
    · rw [brooklaw19_Make.l3.eq hW, rowI_len]
      simp only [decide_eq_true hc.1, decide_eq_true hc.2, cond_true, Option.bind_some]
      refine yes_byte hl ⟨h0, hc.2⟩ fun v hv => ?_
      refine yes_keep hk ⟨h0, hc.1⟩ (w64r hv) fun k' hk' => ?_
      rw [w64 (x := x8 + 1) (by omega) (by omega)]
      exact ih (x8 + 1) k' (by omega) (by omega) (by omega) hk'
    · have hz : (bif decide (x8 < 6) then some (decide (x8 < ((rowI l).length : Int))) else some false) = (bif decide ((6 : Int) < 6) then some (decide ((6 : Int) < ((rowI l).length : Int))) else some false) := by
        rw [rowI_len]
        by_cases h4 : x8 < 6
        · rw [decide_eq_true h4, decide_eq_false (show ¬ x8 < (l.length : Int) from fun h => hc ⟨h4, h⟩)]; rfl
        · rw [decide_eq_false h4]; rfl
      have := ih 6 k (by omega) (by omega) (by omega) hk
      rw [brooklaw19_Make.l3.eq hW] at this ⊢
      rw [hz]
      simp only [show decide ((6 : Int) < 6) = false from rfl, cond_false, Option.bind_some] at this ⊢
      exact this
theorem Make_yes (hF : Facts call) (l f : List Int) (s : List UInt8) (hl : bytesI l) (hf : bytesI f) (hf2 : f.length ≤ 10) (hs : s.length ≤ 60) : Yes (brooklaw19_Make.f call (rowI l) (rowI f) s) QM := by
  rw [brooklaw19_Make.eq hW]
  exact Make_loop hW hF l f s hl hf hf2 hs _ 6 0 _ (by omega) (by omega) (by omega) (KOk.zero 6)
end
end Go.Proofs.YtcpidokhkcmdfaaGreat.B
