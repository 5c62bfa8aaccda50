/- The law MsgBack, of plain data. Conditions: those of each theorem; Facts of closed calls. -/
import Derived.Test.YtcpidokhkcmdfaaGreatNe
namespace Go.Proofs.YtcpidokhkcmdfaaGreat.B
open Go Go.Proofs Go.Proofs.YtcpidokhkcmdfaaGreat.I
set_option linter.unusedVariables false
set_option linter.unusedSimpArgs false
set_option maxRecDepth 100000
theorem xor_in (x y : Int) : 0 ≤ xorv .u8 x y ∧ xorv .u8 x y < 256 := by
  unfold xorv
  rw [wu8]
  omega
theorem xor_ne {x y : Int} (hx : 0 ≤ x ∧ x < 256) (hy : 0 ≤ y ∧ y < 256) (h0 : y ≠ 0) : xorv .u8 x y ≠ x := by
  intro h
  unfold xorv at h
  rw [wu8] at h
  have hb : (BitVec.ofInt 8 x ^^^ BitVec.ofInt 8 y).toNat < 256 := BitVec.isLt _
  have h : (((BitVec.ofInt 8 x ^^^ BitVec.ofInt 8 y).toNat : Nat) : Int) % 256 = x := h
  rw [Int.emod_eq_of_lt (by omega) (by omega)] at h
  have hx2 : (BitVec.ofInt 8 x).toNat = x.toNat := by rw [BitVec.toNat_ofInt]; simp; omega
  have e : (BitVec.ofInt 8 x ^^^ BitVec.ofInt 8 y) = BitVec.ofInt 8 x := BitVec.eq_of_toNat_eq (by omega)
  have e2 : BitVec.ofInt 8 y = 0#8 := by
    have h3 : BitVec.ofInt 8 x ^^^ (BitVec.ofInt 8 x ^^^ BitVec.ofInt 8 y) = BitVec.ofInt 8 x ^^^ BitVec.ofInt 8 x := by rw [e]
    rw [← BitVec.xor_assoc, BitVec.xor_self, BitVec.zero_xor] at h3
    exact h3
  have h4 := congrArg BitVec.toNat e2
  rw [BitVec.toNat_ofInt] at h4
  simp at h4
  omega
theorem told_cut {b : List UInt8} {g : Mg} (h : Told b g) (c : Nat) (hc : c < b.length) : ∀ m, ¬ Told (b.take c) m := by
  intro m hm
  have h1 := parse_cut (told_fit h) 12 c (by rw [← told_bytes h, by_len]; exact hc)
  rw [← told_bytes h, ← by_take] at h1
  have h2 := told_parse hm []
  rw [List.append_nil, h1] at h2
  cases h2
theorem told_long {b : List UInt8} {g : Mg} (h : Told b g) (x : UInt8) : ∀ m, ¬ Told (b ++ [x]) m := by
  intro m hm
  have h1 := told_parse h (bytesOf [x])
  have h2 := told_parse hm []
  rw [List.append_nil, by_append, h1] at h2
  have h3 := congrArg (fun p : R => p.2.2) h2
  simp only [List.length_append, List.length_cons, List.length_nil] at h3
  omega
theorem told_sz' {s : List UInt8} {m : Mg} (h : Told s m) : sG m ≤ 1073741824 := by
  have h1 := parse_sz s
  have h2 := told_parse h []
  rw [List.append_nil] at h2
  rw [h2] at h1
  have h3 := rdM_sz (msgT m)
  rw [rdM_msg h.1] at h3
  have h4 := told_len h
  have h5 : wt (msgT m) ≤ s.length + 1 := h1.1
  have h6 : lenW (msgT m) ≤ s.length := h1.2
  omega
section
variable {call : Oracle} {lp : Loops} (hW : Fix Tryz.prog hs call lp)
include hW
theorem MsgBack_row (hA : brooklaw19_awake.f call = some (true, ())) (hF : Facts call) (l : List Int) (hl : bytesI l) (f : List Int) (hf : bytesI f) (s : List UInt8) (cut : Int) (hcut : IntKind.u16.min ≤ cut ∧ cut ≤ IntKind.u16.max) (pos : Int) (hpos : IntKind.u16.min ≤ pos ∧ pos ≤ IntKind.u16.max) (by_ : Int) (hby : IntKind.u8.min ≤ by_ ∧ by_ ≤ IntKind.u8.max) : brooklaw19_MsgBack.f call (rowI l) (rowI f) s cut pos by_ = some (true, ()) := by
  have c0 : 0 ≤ cut := hcut.1
  have c1 : cut ≤ 65535 := hcut.2
  have p0 : 0 ≤ pos := hpos.1
  have p1 : pos ≤ 65535 := hpos.2
  have b0 : 0 ≤ by_ := hby.1
  have b1 : by_ ≤ 255 := hby.2
  rw [brooklaw19_MsgBack.eq hW, rowI_len]
  by_cases h1 : (10 : Int) < (f.length : Int)
  · simp only [decide_eq_true h1, cond_true, Option.bind_some, hA]
  simp only [decide_eq_false h1, cond_false, Option.bind_some]
  by_cases h2 : (40 : Int) < (s.length : Int)
  · simp only [decide_eq_true h2, cond_true, Option.bind_some, hA]
  simp only [decide_eq_false h2, cond_false, Option.bind_some]
  by_cases h3 : by_ = 0
  · simp only [decide_eq_true h3, cond_true, Option.bind_some, hA]
  simp only [decide_eq_false h3, cond_false, Option.bind_some]
  obtain ⟨_, e, g, rfl, hg, hk1, hk2, hid, hk3⟩ := Make_yes hW hF l f s hl hf (by omega) (by omega)
  rw [e]
  simp only [Option.bind_some]
  rw [MayM_eq hW g (by omega), MayMsg_eq hW g (by omega)]
  simp only [Option.bind_some]
  cases hm : mayM g with
  | false =>
    have hg3 : g.k = 3 := by
      by_cases c : g.k = 3
      · exact c
      · obtain ⟨q1, q2⟩ := hk3 c
        rw [may_small ⟨hid.1, hid.2⟩ q1 c q2 (by omega)] at hm
        cases hm
    have hput := PutM_eq hW g (by omega)
    rw [hm] at hput
    simp only [Bool.false_eq_true, if_false] at hput
    simp only [Bool.not_false, cond_true, hput, Option.bind_some, decide_true, hg3, hA]
  | true =>
  simp only [Bool.not_true, cond_false]
  obtain ⟨b, p, t⟩ := putM_of hW hm (by omega)
  obtain ⟨l1, l2⟩ := told_len t
  rw [p]
  simp only [Option.bind_some, GetM_yes hW t]
  rw [SameMsg_eq hW g g (by omega), eqB_self]
  have hne : b ≠ [] := by intro h; subst h; simp at l1
  have hl0 : ¬ (b.length : Int) = 0 := by omega
  simp only [Option.bind_some, Bool.not_true, cond_false, decide_eq_false hne, decide_eq_false hl0, Bool.not_false, cond_true, byteRow_len]
  rw [w64 (x := cut) (by omega) (by omega), w64 (x := pos) (by omega) (by omega)]
  have hc := tmr (x := cut) (c := (b.length : Int)) c0 (by omega)
  have hp := tmr (x := pos) (c := (b.length : Int)) p0 (by omega)
  generalize Int.tmod cut (b.length : Int) = c at hc
  generalize Int.tmod pos (b.length : Int) = q at hp
  obtain ⟨c, rfl⟩ : ∃ k : Nat, c = k := ⟨c.toNat, by omega⟩
  obtain ⟨q, rfl⟩ : ∃ k : Nat, q = k := ⟨q.toNat, by omega⟩
  rw [subs_eq b (l := 0) (h := (c : Int)) (by omega) (by omega) (by omega), cat_eq (s := b) (t := [0]) (by simp; omega)]
  rw [Int.toNat_zero, List.drop_zero, show ((c : Int) - 0).toNat = c by omega]
  simp only [Option.bind_some]
  rw [GetM_no hW (by rw [List.length_take]; omega) (told_cut t c (by omega)), GetM_no hW (by rw [List.length_append]; simp; omega) (told_long t 0)]
  have hql : q < b.length := by omega
  have hqb : q < (bytesOf b).length := by rw [by_len]; exact hql
  have hv := by_bd b _ (List.getElem_mem hqb)
  rw [rowI_by]
  have ha : at_ (rowI (bytesOf b)) (q : Int) = some q := by
    rw [at_eq _ (by omega) (by rw [rowI_len, by_len]; omega)]; rfl
  have hgt := rowI_get (bytesOf b) q hqb
  have hd : decs [.int .u8] (sub [D.int .u8 (bytesOf b)[q]] 0 1) = some ((bytesOf b)[q], ()) := rfl
  have hsp : splice [D.int .u8 (bytesOf b)[q]] 0 [D.int .u8 (xorv .u8 (bytesOf b)[q] by_)] = [D.int .u8 (xorv .u8 (bytesOf b)[q] by_)] := rfl
  simp only [Option.bind_some, ha, hgt, hd, hsp]
  rw [rowI_set, rowStr_rowI]
  have hx := xor_in (bytesOf b)[q] by_
  have hxn := xor_ne (y := by_) hv ⟨b0, by omega⟩ h3
  have hin : ∀ x ∈ (bytesOf b).set q (xorv .u8 (bytesOf b)[q] by_), 0 ≤ x ∧ x < 256 := by
    intro x hx2
    rcases List.mem_or_eq_of_mem_set hx2 with hx2 | rfl
    · exact by_bd b x hx2
    · exact hx
  have hdiff : strOfNums ((bytesOf b).set q (xorv .u8 (bytesOf b)[q] by_)) ≠ b := by
    intro h
    have h4 := congrArg bytesOf h
    rw [by_strOf hin] at h4
    have h5 := congrArg (fun l : List Int => l[q]?) h4
    simp only [List.getElem?_set_self hqb, List.getElem?_eq_getElem hqb, Option.some.injEq] at h5
    exact hxn h5
  have hlen : (strOfNums ((bytesOf b).set q (xorv .u8 (bytesOf b)[q] by_))).length ≤ 2000000 := by
    simp only [strOfNums, List.length_map, List.length_set, by_len]; omega
  generalize strOfNums ((bytesOf b).set q (xorv .u8 (bytesOf b)[q] by_)) = b2 at hdiff hlen
  simp only [Option.bind_some]
  by_cases ht : ∃ m, Told b2 m
  · obtain ⟨m, ht⟩ := ht
    rw [GetM_yes hW ht]
    have hmg : m ≠ g := by
      intro h; subst h
      exact hdiff (ht.2.trans t.2.symm)
    have hsame : brookref19_SameMsg.f call (tupM m) (tupM g) = some (false, ()) := by
      rw [SameMsg_eq hW m g (told_sz' ht)]
      rw [show eqB m g = false from by rw [Bool.eq_false_iff]; exact fun h => hmg (eqB_iff.1 h)]
    simp only [Option.bind_some, Bool.not_false, Bool.not_true, cond_true, cond_false, hsame, hA]
  · have ht : ∀ m, ¬ Told b2 m := fun m h => ht ⟨m, h⟩
    rw [GetM_no hW hlen ht]
    simp only [Option.bind_some, Bool.not_false, cond_true, hA]
end
end Go.Proofs.YtcpidokhkcmdfaaGreat.B
