/- BerLengths: the length of what is put, and heads that say nothing. Conditions: those of each theorem. -/
import Derived.Test.YtjlcmahknldjpaaBerJ
import Derived.Test.YtjlcmahknldjpaaXBerx11
namespace Go.Proofs.Ytjlcmahknldjpaa.Pure
open Go.RowKit Go.Proofs.Ytjlcmahknldjpaa.XBer Go.Proofs.YtjlcmahknldjpaaV.PrintWords Go.Proofs.YtjlcmahknldjpaaV.PrintMore

set_option linter.unusedVariables false
theorem five {l : List Int} (h : (hd l).2.2.2 = 5) : parse 12 l = (5, no, 0) := by
  show node l _ = _
  unfold node
  rw [if_neg (by rw [h]; decide), h]
theorem get5 {s : ByteArray} (hs : s.size ≤ 1073741824) (h : (hd (bytesOf s)).2.2.2 = 5) : Ev (fun k => ber_Get.f k s 0) (0, ⟨#[]⟩, [], 0, 5) := by
  have := Get_in (s := s) (i := 0) hs (by omega) (by omega)
  rw [show (0 : Int).toNat = 0 from rfl, List.drop_zero, five h] at this
  exact this
theorem say5 {s : ByteArray} (hs : s.size ≤ 1073741824) (h : (hd (bytesOf s)).2.2.2 = 5) (p : Prop) [Decidable p] (hp : p) :
    Ev (fun k => (ber_Get.f k s 0).bind fun b => if p then (brooklaw1_Num.f b.2.2.2.2).bind fun t => if t = 5 then (brooklaw1_awake.f k).bind fun a => some a else some false else some false) true := by
  refine Ev.bind (get5 hs h) ?_
  refine ev_ite (fun _ => ?_) (fun c => absurd hp c)
  unfold brooklaw1_Num.f
  refine Ev.bind (ev_some rfl) ?_
  exact ev_ite (fun _ => Ev.bind awake_ev (ev_some rfl)) (fun c => absurd rfl c)
/-- the seven texts say nothing -/
theorem texts (x : Int) (h0 : 0 ≤ x) (h1 : x < 1200) (b : ByteArray) (hb : b.size ≤ 1200) (m : Int) (m0 : 0 ≤ m) (m1 : m < 7) (s : ByteArray)
    (hs : s = rdOf ByteArray.empty [(⟨#[4, 128]⟩ : ByteArray) ++ b, ((⟨#[4, 129]⟩ : ByteArray) ++ (strOfNums [x % 128 % 256])) ++ b, ((⟨#[4, 130, 0]⟩ : ByteArray) ++ (strOfNums [x % 256])) ++ b, (⟨#[4, 132, 0, 0, 0, 1, 120]⟩ : ByteArray), (⟨#[4, 131, 16, 0, 1]⟩ : ByteArray) ++ b, (⟨#[31, 0]⟩ : ByteArray), (⟨#[63, 0]⟩ : ByteArray)] m) :
    s.size ≤ 1073741824 ∧ (hd (bytesOf s)).2.2.2 = 5 := by
  subst hs
  have z1 : bytesOf (strOfNums [x % 128 % 256]) = [x % 128 % 256] := by_strOf (by simp; omega)
  have z2 : bytesOf (strOfNums [x % 256]) = [x % 256] := by_strOf (by simp; omega)
  have y1 : (strOfNums [x % 128 % 256]).size = 1 := by rw [← by_len, z1]; rfl
  have y2 : (strOfNums [x % 256]).size = 1 := by rw [← by_len, z2]; rfl
  rcases (show m = 0 ∨ m = 1 ∨ m = 2 ∨ m = 3 ∨ m = 4 ∨ m = 5 ∨ m = 6 by omega) with rfl | rfl | rfl | rfl | rfl | rfl | rfl
  · refine ⟨?_, ?_⟩
    · show ((⟨#[4, 128]⟩ : ByteArray) ++ b).size ≤ _
      rw [ByteArray.size_append]; show 2 + _ ≤ _; omega
    · show (hd (bytesOf ((⟨#[4, 128]⟩ : ByteArray) ++ b))).2.2.2 = 5
      rw [by_append]
      show (hd (4 :: 128 :: bytesOf b)).2.2.2 = 5
      simp [hd]
  · refine ⟨?_, ?_⟩
    · show ((⟨#[4, 129]⟩ : ByteArray) ++ strOfNums [x % 128 % 256] ++ b).size ≤ _
      rw [ByteArray.size_append, ByteArray.size_append, y1]; show 2 + 1 + _ ≤ _; omega
    · show (hd (bytesOf ((⟨#[4, 129]⟩ : ByteArray) ++ strOfNums [x % 128 % 256] ++ b))).2.2.2 = 5
      rw [by_append, by_append, z1]
      show (hd (4 :: 129 :: (x % 128 % 256) :: bytesOf b)).2.2.2 = 5
      simp only [hd]
      rw [if_neg (by decide), if_neg (by decide), if_neg (by decide), if_neg (by simp only [List.length_cons]; omega)]
      have e : num (((x % 128 % 256) :: bytesOf b).take ((129 : Int) - 128).toNat) = x % 128 % 256 := by simp [num]
      rw [e, if_pos (by omega)]
  · refine ⟨?_, ?_⟩
    · show ((⟨#[4, 130, 0]⟩ : ByteArray) ++ strOfNums [x % 256] ++ b).size ≤ _
      rw [ByteArray.size_append, ByteArray.size_append, y2]; show 3 + 1 + _ ≤ _; omega
    · show (hd (bytesOf ((⟨#[4, 130, 0]⟩ : ByteArray) ++ strOfNums [x % 256] ++ b))).2.2.2 = 5
      rw [by_append, by_append, z2]
      show (hd (4 :: 130 :: 0 :: (x % 256) :: bytesOf b)).2.2.2 = 5
      simp only [hd]
      rw [if_neg (by decide), if_neg (by decide), if_neg (by decide), if_neg (by simp only [List.length_cons]; omega)]
      rw [if_pos (.inl (by simp))]
  · exact (show (⟨#[4, 132, 0, 0, 0, 1, 120]⟩ : ByteArray).size ≤ 1073741824 ∧ (hd (bytesOf (⟨#[4, 132, 0, 0, 0, 1, 120]⟩ : ByteArray))).2.2.2 = 5 from ⟨by decide +kernel, by decide +kernel⟩)
  · refine ⟨?_, ?_⟩
    · show ((⟨#[4, 131, 16, 0, 1]⟩ : ByteArray) ++ b).size ≤ _
      rw [ByteArray.size_append]; show 5 + _ ≤ _; omega
    · show (hd (bytesOf ((⟨#[4, 131, 16, 0, 1]⟩ : ByteArray) ++ b))).2.2.2 = 5
      rw [by_append]
      show (hd (4 :: 131 :: 16 :: 0 :: 1 :: bytesOf b)).2.2.2 = 5
      simp only [hd]
      rw [if_neg (by decide), if_neg (by decide), if_neg (by decide), if_neg (by simp only [List.length_cons]; omega)]
      have e : num ((16 :: 0 :: 1 :: bytesOf b).take ((131 : Int) - 128).toNat) = 1048577 := by simp [num]
      rw [e, if_pos (by omega)]
  · exact (show (⟨#[31, 0]⟩ : ByteArray).size ≤ 1073741824 ∧ (hd (bytesOf (⟨#[31, 0]⟩ : ByteArray))).2.2.2 = 5 from ⟨by decide +kernel, by decide +kernel⟩)
  · exact (show (⟨#[63, 0]⟩ : ByteArray).size ≤ 1073741824 ∧ (hd (bytesOf (⟨#[63, 0]⟩ : ByteArray))).2.2.2 = 5 from ⟨by decide +kernel, by decide +kernel⟩)

theorem lengths_j0 (a1 x : Int) (h0 : 0 ≤ x) (h1 : x < 1200) (ha : 0 ≤ a1 ∧ a1 < 256) (b p : ByteArray) (hb : b.size ≤ 1200) (want : Int) (hw : 0 ≤ want ∧ want ≤ 2000) (hp : (p.size : Int) = if x > 255 then want + 1 else want) :
    Ev (fun k => brooklaw1_BerLengths.j0 k a1 x b p want) true := by
  have z1 : bytesOf (strOfNums [x % 128 % 256]) = [x % 128 % 256] := by_strOf (by simp; omega)
  have z2 : bytesOf (strOfNums [x % 256]) = [x % 256] := by_strOf (by simp; omega)
  have y1 : (strOfNums [x % 128 % 256]).size = 1 := by rw [← by_len, z1]; rfl
  have y2 : (strOfNums [x % 256]).size = 1 := by rw [← by_len, z2]; rfl
  refine ev_succ ?_
  simp only [brooklaw1_BerLengths.j0, Option.bind_some]
  rw [tm h0, w64 (x := a1) (by omega) (by omega), w64 (x := want + 1) (by omega) (by omega)]
  have hm7 : (7 : Int) = (([(⟨#[4, 128]⟩ : ByteArray) ++ b, ((⟨#[4, 129]⟩ : ByteArray) ++ (strOfNums [x % 128 % 256])) ++ b, ((⟨#[4, 130, 0]⟩ : ByteArray) ++ (strOfNums [x % 256])) ++ b, (⟨#[4, 132, 0, 0, 0, 1, 120]⟩ : ByteArray), (⟨#[4, 131, 16, 0, 1]⟩ : ByteArray) ++ b, (⟨#[31, 0]⟩ : ByteArray), (⟨#[63, 0]⟩ : ByteArray)] : List ByteArray).length : Int) := rfl
  rw [← hm7, tm ha.1]
  have ht := texts x h0 h1 b hb (a1 % 7) (by omega) (by omega) _ rfl
  have sz1 : ((⟨#[4, 129]⟩ : ByteArray) ++ strOfNums [x % 128 % 256]).size = 3 := by rw [ByteArray.size_append, y1]; rfl
  have sz2 : ((⟨#[4, 130, 0]⟩ : ByteArray) ++ strOfNums [x % 256]).size = 4 := by rw [ByteArray.size_append, y2]; rfl
  generalize rdOf ByteArray.empty _ (a1 % 7) = s at *
  rw [y1, y2, sz1, sz2]
  have all : ∀ q : Prop, [Decidable q] → q → Ev (fun k => if 2 + b.size ≤ 9223372036854775807 then if 2 + 1 ≤ 9223372036854775807 then if 3 + b.size ≤ 9223372036854775807 then if 3 + 1 ≤ 9223372036854775807 then if 4 + b.size ≤ 9223372036854775807 then if 5 + b.size ≤ 9223372036854775807 then if (7 : Int) = 0 then none else if 0 ≤ a1 % 7 then if a1 % 7 < 7 then (ber_Get.f k s 0).bind fun b => if q then (brooklaw1_Num.f b.2.2.2.2).bind fun t => if t = 5 then (brooklaw1_awake.f k).bind fun a => some a else some false else some false else none else none else none else none else none else none else none else none) true := by
    intro q _ hq
    refine ev_ite (fun _ => ?_) (fun c => absurd (show 2 + b.size ≤ 9223372036854775807 by omega) c)
    refine ev_ite (fun _ => ?_) (fun c => absurd (show 2 + 1 ≤ 9223372036854775807 by omega) c)
    refine ev_ite (fun _ => ?_) (fun c => absurd (show 3 + b.size ≤ 9223372036854775807 by omega) c)
    refine ev_ite (fun _ => ?_) (fun c => absurd (show 3 + 1 ≤ 9223372036854775807 by omega) c)
    refine ev_ite (fun _ => ?_) (fun c => absurd (show 4 + b.size ≤ 9223372036854775807 by omega) c)
    refine ev_ite (fun _ => ?_) (fun c => absurd (show 5 + b.size ≤ 9223372036854775807 by omega) c)
    refine ev_ite (fun c => absurd c (by omega)) (fun _ => ?_)
    refine ev_ite (fun _ => ?_) (fun c => absurd (show 0 ≤ a1 % 7 by omega) c)
    refine ev_ite (fun _ => ?_) (fun c => absurd (show a1 % 7 < 7 by omega) c)
    exact say5 ht.1 ht.2 q hq
  refine ev_ite (fun c => ?_) (fun c => ?_)
  · rw [if_pos c] at hp
    exact all _ hp
  · rw [if_neg c] at hp
    exact all _ hp

theorem BerLengths : brooklaw1_BerLengths.Pure := by
  intro a0 a1 w0 w1
  have h0 : 0 ≤ a0 ∧ a0 < 65536 := by
    simp [Lit.wf, IntKind.min, IntKind.max, IntKind.signed, IntKind.bits] at w0
    omega
  have h1 : 0 ≤ a1 ∧ a1 < 256 := by
    simp [Lit.wf, IntKind.min, IntKind.max, IntKind.signed, IntKind.bits] at w1
    omega
  refine ev_ex (g := fun k => brooklaw1_BerLengths.f k a0 a1) ?_
  unfold brooklaw1_BerLengths.f
  simp only [Option.bind_some]
  rw [w64 (x := a0) (by omega) (by omega), tm h0.1]
  have hx : 0 ≤ a0 % 1200 ∧ a0 % 1200 < 1200 := by omega
  generalize a0 % 1200 = x at hx
  have hby : bytesOf (strOfNums (List.replicate x.toNat 0)) = List.replicate x.toNat 0 := by_strOf (by intro y hy; rw [(List.mem_replicate.1 hy).2]; omega)
  have hsz : (strOfNums (List.replicate x.toNat 0)).size = x.toNat := by rw [← by_len, hby, List.length_replicate]
  generalize strOfNums (List.replicate x.toNat 0) = b at *
  refine ev_ite (fun _ => ?_) (fun c => absurd hx.1 c)
  refine ev_ite (fun _ => ?_) (fun c => absurd (show x.toNat ≤ 281474976710656 by omega) c)
  have hP := Put_eq ⟨4, b, []⟩ (by simp [wt, wts])
  have hL : lenS 12 (⟨4, b, []⟩ : S25) = x := by
    show lenN _ _ = _
    unfold lenN
    simp only
    rw [if_neg (by omega), if_pos (by omega), if_pos trivial, if_neg (by omega)]
    omega
  rw [if_pos (by omega)] at hP
  have hbd := enc_bd (d := 12) (t := (⟨4, b, []⟩ : S25)) (by omega)
  have hcl : ((cont (⟨4, b, []⟩ : S25)).length : Int) = x := by
    show ((bytesOf b ++ encs []).length : Int) = x
    rw [List.length_append, by_len, hsz]
    simp [encs]
    omega
  have hpl : ((strOfNums (enc (⟨4, b, []⟩ : S25))).size : Int) = whole x := by
    rw [← by_len, by_strOf hbd, enc_len, hcl]
  generalize strOfNums (enc (⟨4, b, []⟩ : S25)) = p at *
  refine Ev.bind hP ?_
  unfold whole at hpl
  rw [lenb_len] at hpl
  rw [w64 (x := 2 + x) (by omega) (by omega), w64 (x := 2 + x + 1) (by omega) (by omega)]
  refine ev_ite (fun c => ?_) (fun c => ?_)
  · refine lengths_j0 a1 x hx.1 hx.2 h1 b p (by omega) _ (by omega) ?_
    rw [if_neg (by omega)] at hpl
    by_cases c2 : x < 256
    · rw [if_pos c2] at hpl; rw [if_neg (by omega)]; omega
    · rw [if_neg c2, if_pos (by omega)] at hpl; rw [if_pos (by omega)]; omega
  · refine lengths_j0 a1 x hx.1 hx.2 h1 b p (by omega) _ (by omega) ?_
    rw [if_pos (by omega)] at hpl
    rw [if_neg (by omega)]; omega
end Go.Proofs.Ytjlcmahknldjpaa.Pure
