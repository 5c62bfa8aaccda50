/- The law MsgIds, of plain data. Conditions: those of each theorem; Facts of closed calls. -/
import Derived.Test.YtcpidokhkcmdfaaGreatNa
namespace Go.Proofs.YtcpidokhkcmdfaaGreat.B
open Go Go.Proofs Go.Proofs.YtcpidokhkcmdfaaGreat.I
set_option linter.unusedVariables false
set_option linter.unusedSimpArgs false
set_option maxRecDepth 100000
theorem enc_le : ∀ x : Tlv, (cont x).length + 5 ≤ 5 * wt x + lenW x := by
  have key : ∀ (n : Nat) (x : Tlv), wt x ≤ n → (cont x).length + 5 ≤ 5 * wt x + lenW x := by
    intro n
    induction n with
    | zero => intro x h; have := wt_pos x; omega
    | succ n ih =>
      intro x h
      have hw := wt_eq x
      have hl := lenW_eq x
      have kids : ∀ l : List Tlv, (∀ y ∈ l, wt y ≤ n) → (encs l).length ≤ 5 * wts l + lenWs l := by
        intro l
        induction l with
        | nil => intro _; simp [encs]
        | cons y r ihl =>
          intro hy
          have h1 := ih y (hy y (by simp))
          have h2 := ihl fun z hz => hy z (List.mem_cons_of_mem _ hz)
          have h3 := enc_len y
          have h4 := (whole_bd (n := ((cont y).length : Int)) (by omega)).2
          simp only [lenWs, wts, encs, List.length_append]; omega
      have hk := kids x.f2 fun y hy => by have := wt_mem _ _ hy; omega
      simp only [cont, List.length_append, by_len]
      omega
  exact fun x => key _ x (Nat.le_refl _)
theorem lenS_msg (m : Mg) : lenS 12 (msgT m) = lens (lenS 11) 0 [numT 2 m.id, bodyT m] := by
  show lenN (nodeT 48 [numT 2 m.id, bodyT m]) (some (lenS 11)) = _
  unfold lenN
  rw [if_neg (show ¬((48 : Int) < 0 ∨ 255 < (48 : Int) ∨ (48 : Int) % 32 = 31) by decide), if_neg (show ¬(48 : Int) / 32 % 2 = 0 by decide), if_neg (show ¬0 < ([] : List UInt8).length by decide)]
theorem lenS_leaf (d : Nat) (tag : Int) (s : List UInt8) (h0 : 0 ≤ tag ∧ tag ≤ 255) (h31 : tag % 32 ≠ 31) (hl : tag / 32 % 2 = 0) (hs : s.length ≤ 1048576) : lenS d (leafT tag s) = s.length := by
  obtain ⟨sub, e⟩ := lenS_node d (leafT tag s)
  rw [e]
  unfold lenN
  simp only []
  rw [if_neg (by omega), if_pos hl, if_pos trivial, if_neg (by omega)]
theorem num_len (t n : Int) : (strOfNums (intB 7 n)).length ≤ 8 := by
  have := lenW_num t n
  rw [show lenW (numT t n) = (strOfNums (intB 7 n)).length + lenWs [] from rfl] at this
  simpa [lenWs] using this
/-- A body that may be, and is not great, may stand behind any number. -/
theorem fit_msg {m : Mg} (hb : 0 ≤ lenS 11 (bodyT m)) (hs : sG m ≤ 12000) : 0 ≤ lenS 12 (msgT m) := by
  rw [lenS_msg]
  have hn : lenS 11 (numT 2 m.id) = (strOfNums (intB 7 m.id)).length := lenS_leaf 11 2 _ (by decide) (by decide) (by decide) (by have := num_len 2 m.id; omega)
  have hn8 := num_len 2 m.id
  have hc := lenS_len 11 (bodyT m) hb
  have hz := body_sz m
  have he := enc_le (bodyT m)
  have w1 := whole_bd (n := ((strOfNums (intB 7 m.id)).length : Int)) (by omega)
  have w2 := whole_bd hb
  simp only [lens]
  rw [hn, if_neg (by omega), if_neg (by omega), if_neg (by omega), if_neg (by omega), if_neg (by omega)]
  omega
theorem body_fit {m : Mg} (h : 0 ≤ lenS 12 (msgT m)) : 0 ≤ lenS 11 (bodyT m) := by
  rw [lenS_msg] at h
  simp only [lens] at h
  by_cases c : lenS 11 (bodyT m) < 0
  · split at h
    · omega
    · split at h
      · omega
      · first | omega | (rw [if_pos c] at h; omega)
  · omega
theorem only_id (m : Mg) (i : Int) (h0 : 1 ≤ m.k) (h1 : m.k ≤ 11) : onlyM (idM m i) = idM (onlyM m) i := by
  obtain ⟨id, k, dn, val, scope, limit, flt, types, mods, edn, attrs, rdn, old, typ, n, ofk, code, text, refs⟩ := m
  simp only at h0 h1
  rcases (show k = 1 ∨ k = 2 ∨ k = 3 ∨ k = 4 ∨ k = 5 ∨ k = 6 ∨ k = 7 ∨ k = 8 ∨ k = 9 ∨ k = 10 ∨ k = 11 by omega) with rfl | rfl | rfl | rfl | rfl | rfl | rfl | rfl | rfl | rfl | rfl <;> rfl
theorem may_id {m : Mg} (h : mayM m = true) (hs : sG m ≤ 12000) {i : Int} (h0 : 0 ≤ i) (h1 : i ≤ 2147483647) : mayM (idM m i) = true := by
  obtain ⟨p1, p2, p3, p4⟩ := may_parts h
  have q1 : withinB (idM m i).id 2147483647 = true := by
    show withinB i 2147483647 = true
    unfold withinB
    rw [decide_eq_true h0, decide_eq_true h1]; rfl
  have q2 : kindB (idM m i) = true := p2
  have q3 : onlyM (idM m i) = idM m i := by rw [only_id m i (kind_bd p2).1 (kind_bd p2).2, p3]
  have q4 : 0 ≤ lenS 12 (msgT (idM m i)) := fit_msg (m := idM m i) (body_fit (m := m) p4) hs
  unfold mayM
  rw [q1, q2, eqB_iff.2 q3, decide_eq_true q4]
  rfl
theorem told_ids {b1 b2 : List UInt8} {g : Mg} {i : Int} (t1 : Told b1 g) (t2 : Told b2 (idM g i)) : decide (b2 = b1) = decide (i = g.id) := by
  by_cases hi : i = g.id
  · subst hi
    rw [idM_self] at t2
    rw [decide_eq_true (t2.2.trans t1.2.symm)]
    exact (decide_eq_true rfl).symm
  · rw [decide_eq_false hi]
    refine decide_eq_false fun h => hi ?_
    subst h
    exact congrArg Mg.id (told_one t2 t1)
section
variable {call : Oracle} {lp : Loops} (hW : Fix Tryz.prog hs call lp)
include hW
theorem putM_of {m : Mg} (h : mayM m = true) (hs : sG m ≤ 100000000) : ∃ b, msg_Put.f call (tupM m) = some (b, ()) ∧ Told b m := ⟨strOfNums (enc (msgT m)), by rw [PutM_eq hW m hs, if_pos h], h, rfl⟩
theorem MsgIds_row (hA : brooklaw19_awake.f call = some (true, ())) (hF : Facts call) (l : List Int) (hl : bytesI l) (f : List Int) (hf : bytesI f) (s : List UInt8) (n : Int) (hn : IntKind.u32.min ≤ n ∧ n ≤ IntKind.u32.max) : brooklaw19_MsgIds.f call (rowI l) (rowI f) s n = some (true, ()) := by
  have hn0 : 0 ≤ n := hn.1
  have hn1 : n ≤ 4294967295 := hn.2
  rw [brooklaw19_MsgIds.eq hW, rowI_len]
  by_cases h1 : (8 : Int) < (f.length : Int)
  · simp only [decide_eq_true h1, cond_true, Option.bind_some, hA]
  simp only [decide_eq_false h1, cond_false, Option.bind_some]
  by_cases h2 : (40 : Int) < (s.length : Int)
  · simp only [decide_eq_true h2, cond_true, Option.bind_some, hA]
  simp only [decide_eq_false h2, cond_false, Option.bind_some]
  obtain ⟨_, e, g, rfl, hg, hk1, hk2⟩ := Make_yes hW hF l f s hl hf (by omega) (by omega)
  rw [e]
  simp only [Option.bind_some]
  rw [MayMsg_eq hW g (by omega)]
  simp only [Option.bind_some]
  cases hm : mayM g with
  | false => simp only [Bool.not_false, cond_true, hA, Option.bind_some]
  | true =>
  simp only [Bool.not_true, cond_false]
  rw [w64 (x := n) (by omega) (by omega)]
  have hc := tmr (x := n) (c := 2147483648) hn0 (by omega)
  generalize Int.tmod n 2147483648 = i at hc
  have hm2 := may_id hm (by omega) (i := i) hc.1 (by omega)
  obtain ⟨b1, p1, t1⟩ := putM_of hW hm (by omega)
  obtain ⟨b2, p2', t2⟩ := putM_of hW hm2 (by show sG g ≤ 100000000; omega)
  have p2 : msg_Put.f call (i, g.k, g.dn, g.val, g.scope, g.limit, g.flt.k, g.flt.t, g.flt.v, dSs g.flt.ps, dFs g.flt.ks, dSs g.types, dMs g.mods, g.edn, dAs g.attrs, g.rdn, g.old, g.typ, g.n, g.ofk, g.code, g.text, dSs g.refs, ()) = some (b2, ()) := p2'
  have same : brookref19_SameMsg.f call (g.id, g.k, g.dn, g.val, g.scope, g.limit, g.flt.k, g.flt.t, g.flt.v, dSs g.flt.ps, dFs g.flt.ks, dSs g.types, dMs g.mods, g.edn, dAs g.attrs, g.rdn, g.old, g.typ, g.n, g.ofk, g.code, g.text, dSs g.refs, ()) (tupM g) = some (true, ()) := by
    have := SameMsg_eq hW g g (by omega)
    rw [eqB_self] at this
    exact this
  have hiff : decide (b2 = b1) = decide (i = g.id) := told_ids t1 t2
  simp only [p2, Option.bind_some, GetM_yes hW t2]
  rw [p1]
  simp only [Option.bind_some, GetM_yes hW t1, idM, decide_true, Bool.not_true, cond_false, same, cond_true, hiff, BEq.rfl, hA]
end
end Go.Proofs.YtcpidokhkcmdfaaGreat.B
