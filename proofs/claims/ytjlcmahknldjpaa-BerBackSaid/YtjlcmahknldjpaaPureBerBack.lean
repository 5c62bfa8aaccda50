/- BerBack: what is put of any made tlv is read again; cut, it asks for more; a byte changed, it says another. Conditions: those of each theorem. -/
import Derived.Test.YtjlcmahknldjpaaBerJ
import Derived.Test.YtjlcmahknldjpaaXBerx9
namespace Go.Proofs.Ytjlcmahknldjpaa.Pure
open Go.RowKit Go.Proofs.Ytjlcmahknldjpaa.XBer Go.Proofs.YtjlcmahknldjpaaV.PrintWords Go.Proofs.YtjlcmahknldjpaaV.PrintMore

theorem xor_bd (a b : Int) : 0 ≤ Go.bits .xor .u8 a b ∧ Go.bits .xor .u8 a b < 256 := by
  unfold Go.bits
  simp only [IntKind.wrap_u8]
  omega
theorem xor_ne {a b : Int} (a0 : 0 ≤ a) (a1 : a < 256) (b0 : 0 ≤ b) (b1 : b < 256) (hb : b ≠ 0) : Go.bits .xor .u8 a b ≠ a := by
  have key : ∀ A B : BitVec 8, A = BitVec.ofInt 8 a → B = BitVec.ofInt 8 b → (((A ^^^ B).toNat : Int) % 256) = a → False := by
    intro A B hA hB h
    have hlt := (A ^^^ B).isLt
    have ha : (A.toNat : Int) = a := by rw [hA, BitVec.toNat_ofInt]; omega
    have e : A ^^^ B = A := by
      apply BitVec.eq_of_toNat_eq
      omega
    have e2 : B = 0#8 := by
      have := congrArg (fun z => A ^^^ z) e
      simp only [← BitVec.xor_assoc, BitVec.xor_self, BitVec.zero_xor] at this
      exact this
    have e3 : B.toNat = 0 := by rw [e2]; rfl
    rw [hB, BitVec.toNat_ofInt] at e3
    omega
  intro h
  unfold Go.bits at h
  simp only [IntKind.wrap_u8] at h
  exact key _ _ rfl rfl h
theorem wf_u8 {x : Int} (h : (Lit.int .u8 x).wf = true) : 0 ≤ x ∧ x < 256 := by
  simp [Lit.wf, IntKind.min, IntKind.max, IntKind.signed, IntKind.bits] at h
  omega
theorem wf_u16 {x : Int} (h : (Lit.int .u16 x).wf = true) : 0 ≤ x ∧ x < 65536 := by
  simp [Lit.wf, IntKind.min, IntKind.max, IntKind.signed, IntKind.bits] at h
  omega

/-- what is said of a tlv that may be, and of bytes that are not the ones put -/
theorem back_j1 (t : S25) (ht : 0 ≤ lenS 12 t) (a4 a5 a6 : Int) (h4 : 0 ≤ a4 ∧ a4 < 65536) (h5 : 0 ≤ a5 ∧ a5 < 65536) (h6 : 0 ≤ a6 ∧ a6 < 256) (h60 : a6 ≠ 0) :
    Ev (fun k => brooklaw1_BerBack.j1 k a4 a5 a6 (strOfNums (enc t)) false t.f0 t.f1 t.f2) true := by
  obtain ⟨sub, hf⟩ := fit_any ht
  have hbd : ∀ x ∈ enc t, 0 ≤ x ∧ x < 256 := enc_bd ht
  have hby : bytesOf (strOfNums (enc t)) = enc t := by_strOf hbd
  have hsz : (strOfNums (enc t)).size = (enc t).length := by rw [← by_len, hby]
  have hpos := enc_pos t
  have hlen := enc_len t
  have hwh := whole_bd (n := (cont t).length) (by omega)
  have hcl := hf.len
  have hwt := wt_enc t
  refine ev_succ ?_
  simp only [brooklaw1_BerBack.j1]
  refine ev_ite (fun c => absurd c (by decide)) (fun _ => ?_)
  refine ev_ite (fun c => absurd c (by omega)) (fun _ => ?_)
  rw [w64 (x := a4) (by omega) (by omega), w64 (x := a5) (by omega) (by omega), tm h4.1]
  have hm4 := Int.emod_nonneg a4 (b := ((strOfNums (enc t)).size : Int)) (by omega)
  have hm4' := Int.emod_lt_of_pos a4 (b := ((strOfNums (enc t)).size : Int)) (by omega)
  refine ev_ite (fun _ => ?_) (fun c => absurd hm4 c)
  refine ev_ite (fun _ => ?_) (fun c => absurd (show a4 % ((strOfNums (enc t)).size : Int) ≤ ((strOfNums (enc t)).size : Int) by omega) c)
  have hcut : bytesOf ((strOfNums (enc t)).extract 0 (a4 % ((strOfNums (enc t)).size : Int)).toNat) = (enc t).take (a4 % ((strOfNums (enc t)).size : Int)).toNat := by rw [by_extract, hby, List.drop_zero]
  have g1 := Get_in (s := (strOfNums (enc t)).extract 0 (a4 % ((strOfNums (enc t)).size : Int)).toNat) (i := 0) (by rw [ByteArray.size_extract]; omega) (by omega) (by omega)
  rw [hcut, show (0 : Int).toNat = 0 from rfl, List.drop_zero, parse_cut ht 12 _ (by omega)] at g1
  refine Ev.bind g1 ?_
  refine ev_ite (fun _ => ?_) (fun c => absurd (show (strOfNums (enc t)).size ≤ 9223372036854775807 by omega) c)
  simp only [Option.bind_some]
  rw [hby]
  refine ev_ite (fun c => absurd c (by omega)) (fun _ => ?_)
  rw [tm h5.1]
  have hm5 := Int.emod_nonneg a5 (b := ((enc t).length : Int)) (by omega)
  have hm5' := Int.emod_lt_of_pos a5 (b := ((enc t).length : Int)) (by omega)
  refine ev_ite (fun _ => ?_) (fun c => absurd hm5 c)
  refine ev_ite (fun _ => ?_) (fun c => absurd hm5' c)
  generalize hat : a5 % ((enc t).length : Int) = at_ at *
  have hgd : rd (enc t) at_ = (enc t).getD at_.toNat 0 := rfl
  have hge := getD_bd hbd at_.toNat
  have hx := xor_ne (a := rd (enc t) at_) (b := a6) (by rw [hgd]; omega) (by rw [hgd]; omega) h6.1 h6.2 h60
  have hwx := xor_bd (rd (enc t) at_) a6
  generalize Go.bits .xor .u8 (rd (enc t) at_) a6 = z at *
  have hne : (enc t).set at_.toNat z ≠ enc t := by
    intro h
    have h2 := congrArg (fun l : List Int => l.getD at_.toNat 0) h
    rw [← hgd] at h2
    have : ((enc t).set at_.toNat z).getD at_.toNat 0 = z := by
      rw [List.getD_eq_getElem?_getD, List.getElem?_set_self (by omega)]; rfl
    rw [this] at h2
    exact hx h2
  have hbd2 : ∀ x ∈ (enc t).set at_.toNat z, 0 ≤ x ∧ x < 256 := by
    intro x hx2
    rcases List.mem_or_eq_of_mem_set hx2 with h | h
    · exact hbd x h
    · rw [h]; exact hwx
  have hby2 : bytesOf (strOfNums ((enc t).set at_.toNat z)) = (enc t).set at_.toNat z := by_strOf hbd2
  have hsz2 : (strOfNums ((enc t).set at_.toNat z)).size = (enc t).length := by rw [← by_len, hby2, List.length_set]
  have g2 := Get_in (s := strOfNums ((enc t).set at_.toNat z)) (i := 0) (by omega) (by omega) (by omega)
  rw [hby2, show (0 : Int).toNat = 0 from rfl, List.drop_zero] at g2
  refine Ev.bind g2 ?_
  unfold brooklaw1_Num.f
  refine Ev.bind (ev_some rfl) ?_
  refine ev_ite (fun _ => ?_) (fun c => absurd rfl c)
  refine Ev.bind (ev_some rfl) ?_
  have aw : Ev (fun k => (brooklaw1_awake.f k).bind fun t => some t) true := Ev.bind awake_ev (ev_some rfl)
  unfold res
  by_cases c : (parse 12 ((enc t).set at_.toNat z)).1 = 0
  · rw [if_pos c]
    refine ev_ite (fun _ => ?_) (fun _ => aw)
    refine ev_ite (fun c2 => ?_) (fun _ => aw)
    have hcan := parse_canon 12 _ hbd2 c
    have hw := parse_wt 12 _ hbd2 c
    have hgd2 := parse_good 12 _ hbd2 c
    rw [List.length_set] at hgd2
    have c3 : (0 : Int) + (parse 12 ((enc t).set at_.toNat z)).2.2 = ((enc t).length : Int) := c2
    rw [List.take_of_length_le (by rw [List.length_set]; omega)] at hcan
    generalize parse 12 ((enc t).set at_.toNat z) = r at *
    obtain ⟨b, hb1, hb2⟩ := same_all (wt r.2.1) r.2.1 t (Nat.le_refl _) (by omega) (by omega)
    refine Ev.bind hb1 ?_
    refine ev_ite (fun hb3 => ?_) (fun _ => aw)
    exact absurd (hcan.symm.trans (congrArg enc (hb2.1 hb3))) hne
  · rw [if_neg c]
    exact ev_ite (fun c2 => absurd c2 c) (fun _ => aw)

theorem BerBack : brooklaw1_BerBack.Pure := by
  intro l0 a1 l2 l3 a4 a5 a6 _ _ w0 _ _ _ w2 _ _ w3 w4 w5 w6
  refine ev_ex (g := fun k => brooklaw1_BerBack.f k l0 a1 l2 l3 a4 a5 a6) ?_
  have aw : Ev (fun k => (brooklaw1_awake.f k).bind fun t => some t) true := Ev.bind awake_ev (ev_some rfl)
  have b0 : ∀ x ∈ l0, 0 ≤ x ∧ x < 256 := fun x hx => wf_u8 (w0 x hx)
  have b2 : ∀ x ∈ l2, 0 ≤ x ∧ x < 256 := fun x hx => wf_u8 (w2 x hx)
  have b3 : ∀ x ∈ l3, 0 ≤ x ∧ x < 256 := fun x hx => wf_u8 (w3 x hx)
  have jt : ∀ x4, x4 = true → Ev (fun k => brooklaw1_BerBack.j0 k l0 a1 l2 l3 a4 a5 a6 x4) true := by
    intro x4 hx
    refine ev_succ ?_
    simp only [brooklaw1_BerBack.j0]
    exact ev_ite (fun _ => aw) (fun c => absurd hx c)
  unfold brooklaw1_BerBack.f
  refine ev_ite (fun _ => jt _ rfl) (fun c0 => ?_)
  refine ev_ite (fun _ => jt _ rfl) (fun c1 => ?_)
  refine ev_ite (fun _ => jt _ rfl) (fun c2 => ?_)
  refine ev_ite (fun _ => jt _ rfl) (fun c3 => ?_)
  by_cases c6 : a6 = 0
  · exact jt _ (by rw [c6]; rfl)
  · have e6 : (a6 == 0) = false := by rw [beq_eq_false_iff_ne]; exact c6
    rw [e6]
    refine ev_succ ?_
    simp only [brooklaw1_BerBack.j0]
    refine ev_ite (fun c => absurd c (by decide)) (fun _ => ?_)
    obtain ⟨t, ht, hm⟩ := Make_eq l0 a1 (by omega) b0
    refine Ev.bind ht ?_
    obtain ⟨sub, hf⟩ := fit_any hm
    have hbd : ∀ x ∈ enc t, 0 ≤ x ∧ x < 256 := enc_bd hm
    have hby : bytesOf (strOfNums (enc t)) = enc t := by_strOf hbd
    have hsz : (strOfNums (enc t)).size = (enc t).length := by rw [← by_len, hby]
    have hpos := enc_pos t
    have hlen := enc_len t
    have hwh := whole_bd (n := (cont t).length) (by omega)
    have hcl := hf.len
    have hwt := wt_enc t
    have hby2 := by_strOf b2
    have hby3 := by_strOf b3
    have hs2 : (strOfNums l2).size = l2.length := by rw [← by_len, hby2]
    have hs3 : (strOfNums l3).size = l3.length := by rw [← by_len, hby3]
    have hP := Put_eq t (by omega)
    rw [if_pos hm] at hP
    refine Ev.bind hP ?_
    refine ev_ite (fun _ => ?_) (fun c => absurd (show (strOfNums l2).size + (strOfNums (enc t)).size ≤ 9223372036854775807 by omega) c)
    refine ev_ite (fun _ => ?_) (fun c => absurd (show (strOfNums l2 ++ strOfNums (enc t)).size + (strOfNums l3).size ≤ 9223372036854775807 by rw [ByteArray.size_append]; omega) c)
    have g1 := Get_in (s := strOfNums l2 ++ strOfNums (enc t) ++ strOfNums l3) (i := (l2.length : Int)) (by rw [ByteArray.size_append, ByteArray.size_append]; omega) (by omega) (by rw [ByteArray.size_append, ByteArray.size_append]; omega)
    rw [by_append, by_append, hby, hby2, hby3, show (l2.length : Int).toNat = l2.length from rfl, List.append_assoc, List.drop_left, parse_enc 12 t hm] at g1
    refine Ev.bind g1 ?_
    unfold brooklaw1_Num.f
    refine Ev.bind (ev_some rfl) ?_
    unfold res
    simp only [if_true]
    rw [w64 (x := (l2.length : Int) + ((strOfNums (enc t)).size : Int)) (by omega) (by omega), hsz]
    refine ev_ite (fun _ => ?_) (fun c => absurd rfl c)
    refine Ev.bind (same_self t (by omega)) ?_
    refine ev_ite (fun _ => ?_) (fun c => absurd rfl c)
    have e7 : ((strOfNums (enc t)).toList == ([] : List UInt8)) = false := by
      rw [beq_eq_false_iff_ne]
      intro h
      have := toList_nil.1 h
      rw [hby] at this
      exact enc_ne t this
    rw [e7]
    exact back_j1 t hm a4 a5 a6 (wf_u16 w4) (wf_u16 w5) (wf_u8 w6) c6
end Go.Proofs.Ytjlcmahknldjpaa.Pure
