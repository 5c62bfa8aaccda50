/- Both readers of tlvs, told by lists of numbers. Conditions: those of each theorem. -/
import Derived.Test.YtcpidokhkcmdfaaSc
namespace Go.Proofs.Ytcpidokhkcmdfaa.B
open Go Go.Proofs Go.Proofs.Ytcpidokhkcmdfaa.I
set_option linter.unusedVariables false
set_option linter.unusedSimpArgs false
mutual
/-- A tlv as data. -/
def dT : Tlv → List D
  | ⟨t, s, l⟩ => [.int .i64 t, .str s, .list (dTs l)]
def dTs : List Tlv → List (List D)
  | [] => []
  | x :: r => dT x :: dTs r
end
theorem dT_eq (x : Tlv) : dT x = [.int .i64 x.f0, .str x.f1, .list (dTs x.f2)] := by cases x; rfl
theorem dTs_map : ∀ l : List Tlv, dTs l = l.map dT
  | [] => rfl
  | x :: r => by simp [dTs, dTs_map r]
theorem dTs_append (a b : List Tlv) : dTs (a ++ b) = dTs a ++ dTs b := by simp [dTs_map]
theorem dTs_len (l : List Tlv) : (dTs l).length = l.length := by simp [dTs_map]
theorem dTs_sz (l : List Tlv) : ∀ e ∈ dTs l, e.length = 3 := by
  intro e he
  rw [dTs_map] at he
  obtain ⟨x, _, rfl⟩ := List.mem_map.1 he
  rw [dT_eq]; rfl
abbrev Rg := ((Int × List UInt8 × List (List D) × Unit) × Int × Int × Unit) × Unit
def res (i : Int) (r : R) : Rg := if r.1 = 0 then (((r.2.1.f0, r.2.1.f1, dTs r.2.1.f2, ()), i + r.2.2, 0, ()), ()) else (((0, [], [], ()), 0, r.1, ()), ())
def resL (t : Int) (ed : Int) (acc : List Tlv) (r : Option (List Tlv)) : Rg :=
  match r with
  | none => (((0, [], [], ()), 0, 5, ()), ())
  | some ts => (((t, [], dTs (acc ++ ts), ()), ed, 0, ()), ())
theorem leaf_at {s : List UInt8} {i : Int} (hi : 0 ≤ i) {f n : Int} (hf : 0 ≤ f) (hn : 0 ≤ n) : (s.drop (i + f).toNat).take (i + f + n - (i + f)).toNat = strOfNums ((((bytesOf s).drop i.toNat).drop f.toNat).take n.toNat) := by
  rw [List.drop_drop, ← by_drop, ← by_take, strOf_by]
  congr 1
  · congr 1; omega
  · congr 1; omega
section
variable {call : Oracle} {lp : Loops} (hW : Fix Try.prog hs call lp)
include hW
theorem get_loop (d : Nat) (hd1 : d ≤ 100) (ih : ∀ (s : List UInt8) (i : Int), s.length ≤ 1073741824 → 0 ≤ i → i ≤ s.length → ber_get.f call s i d = some (res i (parse d ((bytesOf s).drop i.toNat))))
    (s : List UInt8) (hs : s.length ≤ 1073741824) (t ed : Int) (h0 : 0 ≤ ed) (h1 : ed ≤ s.length) : ∀ (n : Nat) (i : Int) (acc : List Tlv), 0 ≤ i → i ≤ ed → (ed - i).toNat ≤ n → (acc.length : Int) ≤ i →
      ber_get.l11 call lp s ((d : Int) + 1) ed i (t, [], ()) (dTs acc) = some (resL t ed acc (items (parse d) (n + 1) (((bytesOf s).take ed.toNat).drop i.toNat))) := by
  intro n
  induction n with
  | zero =>
    intro i acc hi hi2 hn hacc
    have hie : i = ed := by omega
    rw [ber_get.l11.eq hW]
    simp only [Bool.cond_decide]
    rw [if_neg (by omega)]
    have : ((bytesOf s).take ed.toNat).drop i.toNat = [] := List.drop_eq_nil_of_le (by rw [List.length_take]; omega)
    rw [this, items_nil]
    simp [resL]
  | succ n ihn =>
    intro i acc hi hi2 hn hacc
    rw [ber_get.l11.eq hW]
    simp only [Bool.cond_decide]
    by_cases hlt : i < ed
    · rw [if_pos hlt, subs_eq s (by omega) h0 h1]
      simp only [Option.bind_some, Bool.cond_not, Bool.cond_decide]
      rw [show (0 : Int).toNat = 0 from rfl, List.drop_zero, show (ed - 0).toNat = ed.toNat by omega]
      have hsz2 : ((s.take ed.toNat).length : Int) = ed := by rw [List.length_take]; omega
      have hg := ih (s.take ed.toNat) i (by omega) hi (by omega)
      rw [by_take] at hg
      have hbd : ∀ x ∈ ((bytesOf s).take ed.toNat).drop i.toNat, 0 ≤ x ∧ x < 256 := bd_drop (bd_take (by_bd s) _) _
      have hlen : (((bytesOf s).take ed.toNat).drop i.toNat).length = (ed - i).toNat := by rw [List.length_drop, List.length_take, by_len]; omega
      have hne : ((bytesOf s).take ed.toNat).drop i.toNat ≠ [] := by intro h; rw [h] at hlen; simp at hlen; omega
      have hdd : ∀ m : Int, 0 ≤ m → ((bytesOf s).take ed.toNat).drop (i + m).toNat = (((bytesOf s).take ed.toNat).drop i.toNat).drop m.toNat := by
        intro m hm
        rw [List.drop_drop]
        congr 1
        omega
      rw [items_cons _ _ hne, w64 (x := (d : Int) + 1 - 1) (by omega) (by omega), show (d : Int) + 1 - 1 = d by omega, hg]
      simp only [Option.bind_some]
      have hgood := parse_good d _ hbd
      generalize ((bytesOf s).take ed.toNat).drop i.toNat = L at *
      generalize hp : parse d L = r at *
      by_cases c : r.1 = 0
      · have hm := hgood c
        rw [if_pos c]
        unfold res
        rw [if_pos c]
        simp only [if_true]
        rw [app_eq (by simp only [dTs_len, List.length_cons, List.length_nil]; omega) (by simp)]
        simp only [Option.bind_some]
        have hnext := ihn (i + r.2.2) (acc ++ [r.2.1]) (by omega) (by omega) (by omega) (by simp; omega)
        rw [hdd _ (by omega), dTs_append] at hnext
        have e : dTs [r.2.1] = [[D.int .i64 r.2.1.f0, D.str r.2.1.f1, D.list (dTs r.2.1.f2)]] := by simp [dTs, dT_eq]
        rw [e] at hnext
        rw [hnext]
        cases hit : items (parse d) (n + 1) (L.drop r.2.2.toNat) with
        | none => rfl
        | some ts => simp [resL]
      · rw [if_neg c]
        unfold res
        rw [if_neg c]
        simp only
        rw [if_neg c]; rfl
    · rw [if_neg hlt]
      have hie : i = ed := by omega
      have : ((bytesOf s).take ed.toNat).drop i.toNat = [] := List.drop_eq_nil_of_le (by rw [List.length_take]; omega)
      rw [this, items_nil]
      simp [resL]
theorem get_node (s : List UInt8) (i a2 : Int) (hs : s.length ≤ 1073741824) (hi : 0 ≤ i) (hi2 : i ≤ s.length) (sub : Option (List Int → R)) (h0 : sub = none → a2 < 1)
    (h1 : ∀ p, sub = some p → 1 ≤ a2 ∧ ∀ t f n, 0 ≤ f → 0 ≤ n → i + f + n ≤ s.length → ber_get.l11 call lp s a2 (i + f + n) (i + f) (t, [], ()) [] = some (resL t (i + f + n) [] (items p (n.toNat + 1) ((((bytesOf s).drop i.toNat).drop f.toNat).take n.toNat)))) :
    ber_get.f call s i a2 = some (res i (node ((bytesOf s).drop i.toNat) sub)) := by
  rw [ber_get.eq hW, head_eq hW s i hs]
  have hl := by_len s
  have hbd : ∀ x ∈ (bytesOf s).drop i.toNat, 0 ≤ x ∧ x < 256 := bd_drop (by_bd s) _
  have hok := @hd_ok _ hbd
  unfold headS
  rw [if_neg (show ¬ (i < 0 ∨ ((bytesOf s).length : Int) < i) by omega)]
  have hlf := fun (f n : Int) (hf : 0 ≤ f) (hn : 0 ≤ n) => leaf_at (s := s) hi hf hn
  have hLl : (((bytesOf s).drop i.toNat).length : Int) + i = s.length := by rw [List.length_drop]; omega
  unfold node body
  generalize (bytesOf s).drop i.toNat = L at *
  simp only [Option.bind_some, Bool.cond_not, Bool.cond_decide]
  by_cases c : (hd L).2.2.2 = 0
  · obtain ⟨t, q, _, e1, t0, t1, h2, h3, h4, _⟩ := hok c
    rw [if_pos c, if_pos c]
    simp only [q4, e1, if_true]
    rw [and32 t0 t1]
    by_cases c3 : t / 32 % 2 = 0
    · rw [if_pos c3, if_pos (by omega), subs_eq s (by omega) (by omega) (by omega), hlf _ _ (by omega) h3]
      simp [res, Int.add_assoc, dTs]
    · rw [if_neg c3, if_neg (by omega)]
      cases sub with
      | none =>
        rw [if_pos (h0 rfl)]
        simp [res]
      | some p =>
        obtain ⟨g1, g2⟩ := h1 p rfl
        have hB : ((L.drop (hd L).2.1.toNat).take (hd L).2.2.1.toNat).length = (hd L).2.2.1.toNat := by rw [List.length_take, List.length_drop]; omega
        rw [if_neg (by omega), g2 t _ _ (by omega) h3 (by omega)]
        simp only
        rw [hB]
        cases hit : items p ((hd L).2.2.1.toNat + 1) ((L.drop (hd L).2.1.toNat).take (hd L).2.2.1.toNat) with
        | none => simp [resL, res]
        | some ts => simp [resL, res, Int.add_assoc]
  · rw [if_neg c, if_neg c]
    simp only [q4, c, if_false]
    simp [res, c]
theorem get_eq : ∀ (d : Nat), d ≤ 100 → ∀ (s : List UInt8) (i : Int), s.length ≤ 1073741824 → 0 ≤ i → i ≤ s.length → ber_get.f call s i d = some (res i (parse d ((bytesOf s).drop i.toNat))) := by
  intro d
  induction d with
  | zero =>
    intro _ s i hs hi hi2
    exact get_node hW s i _ hs hi hi2 none (fun _ => by omega) (fun p hp => by cases hp)
  | succ d ih =>
    intro hd1 s i hs hi hi2
    refine get_node hW s i _ hs hi hi2 (some (parse d)) (fun h => by cases h) (fun p hp => ?_)
    injection hp with hp
    subst hp
    refine ⟨by omega, fun t f n hf hn hle => ?_⟩
    have := get_loop hW d (by omega) (ih (by omega)) s hs t (i + f + n) (by omega) (by omega) n.toNat (i + f) [] (by omega) (by omega) (by omega) (by simp; omega)
    rw [body_at hi hf hn] at this
    rw [show (((d + 1 : Nat) : Int)) = (d : Int) + 1 by omega]
    exact this
theorem Get_in (s : List UInt8) {i : Int} (hs : s.length ≤ 1073741824) (h0 : 0 ≤ i) (h1 : i ≤ s.length) : ber_Get.f call s i = some (res i (parse 12 ((bytesOf s).drop i.toNat))) := by
  have := get_eq hW 12 (by omega) s i hs h0 h1
  rw [show ((12 : Nat) : Int) = 12 from rfl] at this
  rw [ber_Get.eq hW, this]; rfl

/-! the reference's reader -/
/-- what the reference answers: the same, in its own order -/
abbrev Rr := (Int × List UInt8 × List (List D) × Int × Int × Unit) × Unit
def rr (x : Rg) : Rr := ((x.1.1.1, x.1.1.2.1, x.1.1.2.2.1, x.1.2.1, x.1.2.2.1, ()), ())
end
end Go.Proofs.Ytcpidokhkcmdfaa.B
