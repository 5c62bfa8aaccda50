/- Whether two messages are one. Conditions: those of each theorem. -/
import Derived.Test.YtcpidokhkcmdfaaGreatTe
namespace Go.Proofs.YtcpidokhkcmdfaaGreat.B
open Go Go.Proofs Go.Proofs.YtcpidokhkcmdfaaGreat.I
set_option linter.unusedVariables false
set_option linter.unusedSimpArgs false
set_option maxRecDepth 100000
def sAs : List Att → Nat
  | [] => 0
  | a :: r => 1 + a.t.length + sS a.vs + sAs r
def sMs : List Mdf → Nat
  | [] => 0
  | a :: r => 1 + a.t.length + sS a.vs + sMs r
theorem sAs_mem : ∀ (l : List Att) (x : Att), x ∈ l → 1 + x.t.length + sS x.vs ≤ sAs l
  | y :: r, x, h => by
    simp only [sAs]
    rcases List.mem_cons.1 h with rfl | h
    · omega
    · have := sAs_mem r x h
      omega
theorem sMs_mem : ∀ (l : List Mdf) (x : Mdf), x ∈ l → 1 + x.t.length + sS x.vs ≤ sMs l
  | y :: r, x, h => by
    simp only [sMs]
    rcases List.mem_cons.1 h with rfl | h
    · omega
    · have := sMs_mem r x h
      omega
theorem sAs_len : ∀ l : List Att, l.length ≤ sAs l
  | [] => by simp [sAs]
  | x :: r => by
    have := sAs_len r
    simp only [sAs, List.length_cons]; omega
theorem sMs_len : ∀ l : List Mdf, l.length ≤ sMs l
  | [] => by simp [sMs]
  | x :: r => by
    have := sMs_len r
    simp only [sMs, List.length_cons]; omega
/-- how large a message is -/
def sG (m : Mg) : Nat := 1 + m.dn.length + m.val.length + sF m.flt + sS m.types + sMs m.mods + m.edn.length + sAs m.attrs + m.rdn.length + m.typ.length + m.text.length + sS m.refs
theorem att_eqB (a b : Att) : (eqB a.t b.t && eqB a.vs b.vs) = eqB a b := by
  rw [Bool.eq_iff_iff, eqB_iff]
  cases a; cases b
  simp [eqB_iff]
theorem mod_eqB (a b : Mdf) : ((eqB a.k b.k && eqB a.t b.t) && eqB a.vs b.vs) = eqB a b := by
  rw [Bool.eq_iff_iff, eqB_iff]
  cases a; cases b
  simp [eqB_iff, and_assoc]
section
variable {call : Oracle} {lp : Loops} (hW : Fix Tryz.prog hs call lp)
include hW
theorem atts_eq (a b : List Att) (ha : sAs a ≤ 1073741824) : slices_EqualFunc_api_Attr_api_Attr_api_Attr_api_Attr.f call (dAs a) (dAs b) = some (eqB a b, ()) := by
  have hln := sAs_len a
  rw [slices_EqualFunc_api_Attr_api_Attr_api_Attr_api_Attr.eq hW, dAs_len, dAs_len]
  by_cases c : (a.length : Int) = b.length
  · have hl : a.length = b.length := by omega
    simp only [c, decide_true, Bool.not_true, cond_false]
    rw [← c]
    have := loop_eq (L := fun i => slices_EqualFunc_api_Attr_api_Attr_api_Attr_api_Attr.l4 call lp (dAs b) (dAs a) (a.length : Int) i) (yes := (true, ())) (no := (false, ())) hl (fun j h => by
      have h1 := sAs_mem _ _ (List.getElem_mem h)
      have h2 := sS_len a[j].vs
      rw [slices_EqualFunc_api_Attr_api_Attr_api_Attr_api_Attr.l4.eq hW]
      rw [decide_eq_true (show (j : Int) < (a.length : Int) by omega), cond_true, ix_att a j h, ix_att b j (by omega)]
      simp only [Option.bind_some, dec_att]
      rw [msg_Same_1.eq hW, strs_eq hW _ _ (by omega), w64 (x := (j : Int) + 1) (by omega) (by omega)]
      simp only [Option.bind_some, andS, eqB_dec, att_eqB]
      cases eqB a[j] (b[j]'(by omega)) <;> rfl) (by
      rw [slices_EqualFunc_api_Attr_api_Attr_api_Attr_api_Attr.l4.eq hW]
      simp only [Bool.cond_decide]
      rw [if_neg (by omega)])
    rw [this]
    cases eqB a b <;> rfl
  · simp only [c, decide_false, Bool.not_false, cond_true]
    rw [len_eqB c]
theorem mods_eq (a b : List Mdf) (ha : sMs a ≤ 1073741824) : slices_EqualFunc_api_Mod_api_Mod_api_Mod_api_Mod.f call (dMs a) (dMs b) = some (eqB a b, ()) := by
  have hln := sMs_len a
  rw [slices_EqualFunc_api_Mod_api_Mod_api_Mod_api_Mod.eq hW, dMs_len, dMs_len]
  by_cases c : (a.length : Int) = b.length
  · have hl : a.length = b.length := by omega
    simp only [c, decide_true, Bool.not_true, cond_false]
    rw [← c]
    have := loop_eq (L := fun i => slices_EqualFunc_api_Mod_api_Mod_api_Mod_api_Mod.l4 call lp (dMs b) (dMs a) (a.length : Int) i) (yes := (true, ())) (no := (false, ())) hl (fun j h => by
      have h1 := sMs_mem _ _ (List.getElem_mem h)
      have h2 := sS_len a[j].vs
      rw [slices_EqualFunc_api_Mod_api_Mod_api_Mod_api_Mod.l4.eq hW]
      rw [decide_eq_true (show (j : Int) < (a.length : Int) by omega), cond_true, ix_mod a j h, ix_mod b j (by omega)]
      simp only [Option.bind_some, dec_mod]
      rw [msg_Same_2.eq hW, strs_eq hW _ _ (by omega), w64 (x := (j : Int) + 1) (by omega) (by omega)]
      simp only [Option.bind_some, andS, eqB_dec, mod_eqB]
      cases eqB a[j] (b[j]'(by omega)) <;> rfl) (by
      rw [slices_EqualFunc_api_Mod_api_Mod_api_Mod_api_Mod.l4.eq hW]
      simp only [Bool.cond_decide]
      rw [if_neg (by omega)])
    rw [this]
    cases eqB a b <;> rfl
  · simp only [c, decide_false, Bool.not_false, cond_true]
    rw [len_eqB c]
omit hW in
theorem mg_eqB (a b : Mg) : eqB a b = (eqB a.id b.id && eqB a.k b.k && eqB a.dn b.dn && eqB a.val b.val && eqB a.scope b.scope && eqB a.limit b.limit && eqB a.flt b.flt && eqB a.types b.types && eqB a.mods b.mods && eqB a.edn b.edn && eqB a.attrs b.attrs && eqB a.rdn b.rdn && eqB a.old b.old && eqB a.typ b.typ && eqB a.n b.n && eqB a.ofk b.ofk && eqB a.code b.code && eqB a.text b.text && eqB a.refs b.refs) := by
  rw [Bool.eq_iff_iff, eqB_iff]
  cases a; cases b
  simp [eqB_iff, and_assoc]
theorem Same_eq (a b : Mg) (ha : sG a ≤ 1073741824) : msg_Same.f call (tupM a) (tupM b) = some (eqB a b, ()) := by
  unfold sG at ha
  have h1 := sS_len a.types
  have h2 := sS_len a.refs
  rw [msg_Same.eq hW]
  have hf := fsame_eq hW a.flt b.flt (by omega)
  have e : ∀ f : Flt, tupF f = (f.k, f.t, f.v, dSs f.ps, dFs f.ks, ()) := fun _ => rfl
  rw [e, e] at hf
  rw [strs_eq hW a.types b.types (by omega), strs_eq hW a.refs b.refs (by omega), mods_eq hW a.mods b.mods (by omega), atts_eq hW a.attrs b.attrs (by omega), hf]
  simp only [Option.bind_some, andS, eqB_dec, beq_eqB]
  rw [mg_eqB a b]
  congr 2
  simp only [Bool.and_assoc, Bool.and_comm, Bool.and_left_comm]
theorem SameMods_eq (a b : List Mdf) (ha : sMs a ≤ 1073741824) : brookref19_SameMods.f call (dMs a) (dMs b) = some (eqB a b, ()) := by
  have hln := sMs_len a
  rw [brookref19_SameMods.eq hW, dMs_len, dMs_len]
  by_cases c : (a.length : Int) = b.length
  · have hl : a.length = b.length := by omega
    simp only [c, decide_true, Bool.not_true, cond_false]
    have := loop_eq (L := fun i => brookref19_SameMods.l4 call lp (dMs a) (dMs b) i) (yes := (true, ())) (no := (false, ())) hl (fun j h => by
      have h1 := sMs_mem _ _ (List.getElem_mem h)
      have h2 := sS_len a[j].vs
      rw [brookref19_SameMods.l4.eq hW, dMs_len]
      rw [decide_eq_true (show (j : Int) < (a.length : Int) by omega), cond_true, ix_mod a j h, ix_mod b j (by omega)]
      have d1 : ∀ m : Mdf, decs [.int .i64] (sub (dM m) 0 1) = some (m.k, ()) := fun _ => rfl
      have d2 : ∀ m : Mdf, decs [.str] (sub (dM m) 1 1) = some (m.t, ()) := fun _ => rfl
      have d3 : ∀ m : Mdf, decs [.list] (sub (dM m) 2 1) = some (dSs m.vs, ()) := fun _ => rfl
      simp only [Option.bind_some, d1, d2, d3]
      rw [Texts_eq hW _ _ (by omega), w64 (x := (j : Int) + 1) (by omega) (by omega)]
      simp only [Option.bind_some, orS, eqB_dec, bind_id]
      rw [← mod_eqB a[j]]
      cases eqB a[j].k (b[j]'(by omega)).k <;> cases eqB a[j].t (b[j]'(by omega)).t <;> cases eqB a[j].vs (b[j]'(by omega)).vs <;> rfl) (by
      rw [brookref19_SameMods.l4.eq hW, dMs_len]
      simp only [Bool.cond_decide]
      rw [if_neg (by omega)])
    rw [this]
    cases eqB a b <;> rfl
  · simp only [c, decide_false, Bool.not_false, cond_true]
    rw [len_eqB c]
theorem SameEntry_eq (d d' : List UInt8) (a b : List Att) (ha : sAs a ≤ 1073741824) : brookref1_SameEntry.f call (d, dAs a, ()) (d', dAs b, ()) = some (eqB d d' && eqB a b, ()) := by
  have hln := sAs_len a
  rw [brookref1_SameEntry.eq hW, dAs_len, dAs_len]
  simp only [orS, Option.bind_some, eqB_dec]
  by_cases c : (a.length : Int) = b.length
  · have hl : a.length = b.length := by omega
    have := loop_eq (L := fun i => brookref1_SameEntry.l4 call lp i (d, dAs a, ()) (d', dAs b, ())) (yes := (true, ())) (no := (false, ())) hl (fun j h => by
      have h1 := sAs_mem _ _ (List.getElem_mem h)
      have h2 := sS_len a[j].vs
      rw [brookref1_SameEntry.l4.eq hW]
      simp only [dAs_len]
      rw [decide_eq_true (show (j : Int) < (a.length : Int) by omega), cond_true, ix_att a j h, ix_att b j (by omega)]
      have d1 : ∀ m : Att, decs [.str] (sub (dA m) 0 1) = some (m.t, ()) := fun _ => rfl
      have d2 : ∀ m : Att, decs [.list] (sub (dA m) 1 1) = some (dSs m.vs, ()) := fun _ => rfl
      simp only [Option.bind_some, d1, d2]
      rw [Texts_eq hW _ _ (by omega), w64 (x := (j : Int) + 1) (by omega) (by omega)]
      simp only [Option.bind_some, eqB_dec]
      rw [← att_eqB a[j]]
      cases eqB a[j].t (b[j]'(by omega)).t <;> cases eqB a[j].vs (b[j]'(by omega)).vs <;> rfl) (by
      rw [brookref1_SameEntry.l4.eq hW]
      simp only [Bool.cond_decide, dAs_len]
      rw [if_neg (by omega)])
    rw [this, eqB_iff.2 c]
    cases eqB d d' <;> cases eqB a b <;> rfl
  · have : eqB (a.length : Int) (b.length : Int) = false := by
      cases e : eqB (a.length : Int) (b.length : Int) with
      | false => rfl
      | true => exact absurd (eqB_iff.1 e) c
    rw [len_eqB c, this]
    cases eqB d d' <;> rfl
theorem SameMsg_eq (a b : Mg) (ha : sG a ≤ 1073741824) : brookref19_SameMsg.f call (tupM a) (tupM b) = some (eqB a b, ()) := by
  unfold sG at ha
  have h1 := sS_len a.types
  have h2 := sS_len a.refs
  rw [brookref19_SameMsg.eq hW]
  have hf := rfsame_eq hW _ a.flt b.flt (Nat.le_refl _) (by omega)
  have e : ∀ f : Flt, tupF f = (f.k, f.t, f.v, dSs f.ps, dFs f.ks, ()) := fun _ => rfl
  rw [e, e] at hf
  rw [Texts_eq hW a.types b.types (by omega), Texts_eq hW a.refs b.refs (by omega), SameMods_eq hW a.mods b.mods (by omega), SameEntry_eq hW a.edn b.edn a.attrs b.attrs (by omega), hf]
  simp only [Option.bind_some, andS, eqB_dec, beq_eqB]
  rw [mg_eqB a b]
  congr 2
  simp only [Bool.and_assoc]
end
end Go.Proofs.YtcpidokhkcmdfaaGreat.B
