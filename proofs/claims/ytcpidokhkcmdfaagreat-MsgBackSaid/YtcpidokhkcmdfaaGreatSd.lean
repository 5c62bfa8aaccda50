/- Both readers of tlvs, told by lists of numbers. Conditions: those of each theorem. -/
import Derived.Test.YtcpidokhkcmdfaaGreatSc
namespace Go.Proofs.YtcpidokhkcmdfaaGreat.B
open Go Go.Proofs Go.Proofs.YtcpidokhkcmdfaaGreat.I
set_option linter.unusedVariables false
set_option linter.unusedSimpArgs false
mutual
/-- A tlv as data. -/
def dT : Tlv → List D
  | ⟨t, s, l⟩ => [.int .i64 t, .str s, .list (dTs l)]
def dTs : List Tlv → List (List D)
  | [] => []
  | x :: r => dT x :: dTs r
end
theorem dT_eq (x : Tlv) : dT x = [.int .i64 x.f0, .str x.f1, .list (dTs x.f2)] := by cases x; rfl
theorem dTs_map : ∀ l : List Tlv, dTs l = l.map dT
  | [] => rfl
  | x :: r => by simp [dTs, dTs_map r]
theorem dTs_append (a b : List Tlv) : dTs (a ++ b) = dTs a ++ dTs b := by simp [dTs_map]
theorem dTs_len (l : List Tlv) : (dTs l).length = l.length := by simp [dTs_map]
theorem dTs_sz (l : List Tlv) : ∀ e ∈ dTs l, e.length = 3 := by
  intro e he
  rw [dTs_map] at he
  obtain ⟨x, _, rfl⟩ := List.mem_map.1 he
  rw [dT_eq]; rfl
abbrev Rg := ((Int × List UInt8 × List (List D) × Unit) × Int × Int × Unit) × Unit
def res (i : Int) (r : R) : Rg := if r.1 = 0 then (((r.2.1.f0, r.2.1.f1, dTs r.2.1.f2, ()), i + r.2.2, 0, ()), ()) else (((0, [], [], ()), 0, r.1, ()), ())
def resL (t : Int) (ed : Int) (acc : List Tlv) (r : Option (List Tlv)) : Rg :=
  match r with
  | none => (((0, [], [], ()), 0, 5, ()), ())
  | some ts => (((t, [], dTs (acc ++ ts), ()), ed, 0, ()), ())
theorem leaf_at {s : List UInt8} {i : Int} (hi : 0 ≤ i) {f n : Int} (hf : 0 ≤ f) (hn : 0 ≤ n) : (s.drop (i + f).toNat).take (i + f + n - (i + f)).toNat = strOfNums ((((bytesOf s).drop i.toNat).drop f.toNat).take n.toNat) := by
  rw [List.drop_drop, ← by_drop, ← by_take, strOf_by]
  congr 1
  · congr 1; omega
  · congr 1; omega
section
variable {call : Oracle} {lp : Loops} (hW : Fix Tryz.prog hs call lp)
include hW
theorem get_loop (d : Nat) (hd1 : d ≤ 100) (ih : ∀ (s : List UInt8) (i : Int), s.length ≤ 1073741824 → 0 ≤ i → i ≤ s.length → ber_get.f call s i d = some (res i (parse d ((bytesOf s).drop i.toNat))))
    (s : List UInt8) (hs : s.length ≤ 1073741824) (t ed : Int) (h0 : 0 ≤ ed) (h1 : ed ≤ s.length) : ∀ (n : Nat) (i : Int) (acc : List Tlv), 0 ≤ i → i ≤ ed → (ed - i).toNat ≤ n → (acc.length : Int) ≤ i →
      ber_get.l11 call lp s ((d : Int) + 1) ed i (t, [], ()) (dTs acc) = some (resL t ed acc (items (parse d) (n + 1) (((bytesOf s).take ed.toNat).drop i.toNat))) := by
  intro n
  induction n with
  | zero =>
    intro i acc hi hi2 hn hacc
    have hie : i = ed := by omega
    rw [ber_get.l11.eq hW]
    simp only [Bool.cond_decide]
    rw [if_neg (by omega)]
    have : ((bytesOf s).take ed.toNat).drop i.toNat = [] := List.drop_eq_nil_of_le (by rw [List.length_take]; omega)
    rw [this, items_nil]
    simp [resL]
  | succ n ihn =>
    intro i acc hi hi2 hn hacc
    rw [ber_get.l11.eq hW]
    simp only [Bool.cond_decide]
    by_cases hlt : i < ed
    · rw [if_pos hlt, subs_eq s (by omega) h0 h1]
      simp only [Option.bind_some, Bool.cond_not, Bool.cond_decide]
      rw [show (0 : Int).toNat = 0 from rfl, List.drop_zero, show (ed - 0).toNat = ed.toNat by omega]
      have hsz2 : ((s.take ed.toNat).length : Int) = ed := by rw [List.length_take]; omega
      have hg := ih (s.take ed.toNat) i (by omega) hi (by omega)
      rw [by_take] at hg
      have hbd : ∀ x ∈ ((bytesOf s).take ed.toNat).drop i.toNat, 0 ≤ x ∧ x < 256 := bd_drop (bd_take (by_bd s) _) _
      have hlen : (((bytesOf s).take ed.toNat).drop i.toNat).length = (ed - i).toNat := by rw [List.length_drop, List.length_take, by_len]; omega
      have hne : ((bytesOf s).take ed.toNat).drop i.toNat ≠ [] := by intro h; rw [h] at hlen; simp at hlen; omega
      have hdd : ∀ m : Int, 0 ≤ m → ((bytesOf s).take ed.toNat).drop (i + m).toNat = (((bytesOf s).take ed.toNat).drop i.toNat).drop m.toNat := by
        intro m hm
        rw [List.drop_drop]
        congr 1
        omega
      rw [items_cons _ _ hne, w64 (x := (d : Int) + 1 - 1) (by omega) (by omega), show (d : Int) + 1 - 1 = d by omega, hg]
      simp only [Option.bind_some]
      have hgood := parse_good d _ hbd
      generalize ((bytesOf s).take ed.toNat).drop i.toNat = L at *
      generalize hp : parse d L = r at *
      by_cases c : r.1 = 0
      · have hm := hgood c
        rw [if_pos c]
        unfold res
        rw [if_pos c]
        simp only [if_true]
        rw [app_eq (by simp only [dTs_len, List.length_cons, List.length_nil]; omega) (by simp)]
        simp only [Option.bind_some]
        have hnext := ihn (i + r.2.2) (acc ++ [r.2.1]) (by omega) (by omega) (by omega) (by simp; omega)
        rw [hdd _ (by omega), dTs_append] at hnext
        have e : dTs [r.2.1] = [[D.int .i64 r.2.1.f0, D.str r.2.1.f1, D.list (dTs r.2.1.f2)]] := by simp [dTs, dT_eq]
        rw [e] at hnext
        rw [hnext]
        cases hit : items (parse d) (n + 1) (L.drop r.2.2.toNat) with
        | none => rfl
        | some ts => simp [resL]
      · rw [if_neg c]
        unfold res
        rw [if_neg c]
        simp only
        rw [if_neg c]; rfl
    · rw [if_neg hlt]
      have hie : i = ed := by omega
      have : ((bytesOf s).take ed.toNat).drop i.toNat = [] := List.drop_eq_nil_of_le (by rw [List.length_take]; omega)
      rw [this, items_nil]
      simp [resL]
theorem get_node (s : List UInt8) (i a2 : Int) (hs : s.length ≤ 1073741824) (hi : 0 ≤ i) (hi2 : i ≤ s.length) (sub : Option (List Int → R)) (h0 : sub = none → a2 < 1)
    (h1 : ∀ p, sub = some p → 1 ≤ a2 ∧ ∀ t f n, 0 ≤ f → 0 ≤ n → i + f + n ≤ s.length → ber_get.l11 call lp s a2 (i + f + n) (i + f) (t, [], ()) [] = some (resL t (i + f + n) [] (items p (n.toNat + 1) ((((bytesOf s).drop i.toNat).drop f.toNat).take n.toNat)))) :
    ber_get.f call s i a2 = some (res i (node ((bytesOf s).drop i.toNat) sub)) := by
  rw [ber_get.eq hW, head_eq hW s i hs]
  have hl := by_len s
  have hbd : ∀ x ∈ (bytesOf s).drop i.toNat, 0 ≤ x ∧ x < 256 := bd_drop (by_bd s) _
  have hok := @hd_ok _ hbd
  unfold headS
  rw [if_neg (show ¬ (i < 0 ∨ ((bytesOf s).length : Int) < i) by omega)]
  have hlf := fun (f n : Int) (hf : 0 ≤ f) (hn : 0 ≤ n) => leaf_at (s := s) hi hf hn
  have hLl : (((bytesOf s).drop i.toNat).length : Int) + i = s.length := by rw [List.length_drop]; omega
  unfold node body
  generalize (bytesOf s).drop i.toNat = L at *
  simp only [Option.bind_some, Bool.cond_not, Bool.cond_decide]
  by_cases c : (hd L).2.2.2 = 0
  · obtain ⟨t, q, _, e1, t0, t1, h2, h3, h4, _⟩ := hok c
    rw [if_pos c, if_pos c]
    simp only [q4, e1, if_true]
    rw [and32 t0 t1]
    by_cases c3 : t / 32 % 2 = 0
    · rw [if_pos c3, if_pos (by omega), subs_eq s (by omega) (by omega) (by omega), hlf _ _ (by omega) h3]
      simp [res, Int.add_assoc, dTs]
    · rw [if_neg c3, if_neg (by omega)]
      cases sub with
      | none =>
        rw [if_pos (h0 rfl)]
        simp [res]
      | some p =>
        obtain ⟨g1, g2⟩ := h1 p rfl
        have hB : ((L.drop (hd L).2.1.toNat).take (hd L).2.2.1.toNat).length = (hd L).2.2.1.toNat := by rw [List.length_take, List.length_drop]; omega
        rw [if_neg (by omega), g2 t _ _ (by omega) h3 (by omega)]
        simp only
        rw [hB]
        cases hit : items p ((hd L).2.2.1.toNat + 1) ((L.drop (hd L).2.1.toNat).take (hd L).2.2.1.toNat) with
        | none => simp [resL, res]
        | some ts => simp [resL, res, Int.add_assoc]
  · rw [if_neg c, if_neg c]
    simp only [q4, c, if_false]
    simp [res, c]
theorem get_eq : ∀ (d : Nat), d ≤ 100 → ∀ (s : List UInt8) (i : Int), s.length ≤ 1073741824 → 0 ≤ i → i ≤ s.length → ber_get.f call s i d = some (res i (parse d ((bytesOf s).drop i.toNat))) := by
  intro d
  induction d with
  | zero =>
    intro _ s i hs hi hi2
    exact get_node hW s i _ hs hi hi2 none (fun _ => by omega) (fun p hp => by cases hp)
  | succ d ih =>
    intro hd1 s i hs hi hi2
    refine get_node hW s i _ hs hi hi2 (some (parse d)) (fun h => by cases h) (fun p hp => ?_)
    injection hp with hp
    subst hp
    refine ⟨by omega, fun t f n hf hn hle => ?_⟩
    have := get_loop hW d (by omega) (ih (by omega)) s hs t (i + f + n) (by omega) (by omega) n.toNat (i + f) [] (by omega) (by omega) (by omega) (by simp; omega)
    rw [body_at hi hf hn] at this
    rw [show (((d + 1 : Nat) : Int)) = (d : Int) + 1 by omega]
    exact this
theorem Get_in (s : List UInt8) {i : Int} (hs : s.length ≤ 1073741824) (h0 : 0 ≤ i) (h1 : i ≤ s.length) : ber_Get.f call s i = some (res i (parse 12 ((bytesOf s).drop i.toNat))) := by
  have := get_eq hW 12 (by omega) s i hs h0 h1
  rw [show ((12 : Nat) : Int) = 12 from rfl] at this
  rw [ber_Get.eq hW, this]; rfl

/-! the reference's reader -/
theorem rhead_round (s : List UInt8) (i n kk j c : Int) (hi : 0 ≤ i) (hs : s.length ≤ 1073741824) (h : j < kk) (h0 : 0 ≤ j) (h2 : j ≤ 2) (hn : 0 ≤ n) (hn2 : n < 65536) (hsz : i + 2 + j < s.length) (hc : (bytesOf s).getD (i + 2 + j).toNat 0 = c) (c0 : 0 ≤ c) (c1 : c < 256) :
    brookref1_head.l17 call lp s i n kk j = brookref1_head.l17 call lp s i (n * 256 + c) kk (j + 1) := by
  rw [brookref1_head.l17.eq hW]
  simp only [Bool.cond_decide]
  rw [if_pos h, w64 (x := i + 2) (by omega) (by omega), w64 (x := i + 2 + j) (by omega) (by omega), bt_by s (by omega) hsz, hc]
  simp only [Option.bind_some]
  rw [w64 (x := n * 256) (by omega) (by omega), w64 (x := c) (by omega) (by omega), w64 (x := n * 256 + c) (by omega) (by omega), w64 (x := j + 1) (by omega) (by omega)]
theorem rhead_end (s : List UInt8) (i n kk c0 : Int) (hi : 0 ≤ i) (hs : s.length ≤ 1073741824) (g2 : 1 ≤ kk) (g3 : kk ≤ 3) (g4 : i + 2 + kk ≤ s.length) (hc : (bytesOf s).getD (i + 2).toNat 0 = c0) :
    brookref1_head.l17 call lp s i n kk kk = some (if c0 = 0 ∨ n < 128 ∨ 1048576 < n then ((0, 0, 5, ()), ()) else ((i + 2 + kk, n, 0, ()), ())) := by
  rw [brookref1_head.l17.eq hW]
  simp only [Bool.cond_decide]
  rw [if_neg (by omega), w64 (x := i + 2) (by omega) (by omega), bt_by s (by omega) (by omega), hc, w64 (x := i + 2 + kk) (by omega) (by omega)]
  simp only [Option.bind_some]
  have e1 : ((if c0 = 0 then some true else some (decide (n < 128))).bind fun z3 => bif z3 then some true else some (decide (1048576 < n))) = some (decide (c0 = 0 ∨ n < 128 ∨ 1048576 < n)) := by
    by_cases a0 : c0 = 0
    · simp [a0]
    · by_cases a1 : n < 128
      · simp [a0, a1]
      · simp [a0, a1]
  rw [← Option.bind_assoc, e1]
  simp only [Option.bind_some, Bool.cond_decide]
  by_cases a0 : c0 = 0 ∨ n < 128 ∨ 1048576 < n
  · rw [if_pos a0, if_pos a0]
  · rw [if_neg a0, if_neg a0]
theorem rhead_eq (s : List UInt8) (i : Int) (hs : s.length ≤ 1073741824) (hi : 0 ≤ i) (hi2 : i ≤ s.length) :
    brookref1_head.f call s i = some (if (hdr ((bytesOf s).drop i.toNat)).2.2 = 0 then ((i + (hdr ((bytesOf s).drop i.toNat)).1, (hdr ((bytesOf s).drop i.toNat)).2.1, 0, ()), ()) else ((0, 0, (hdr ((bytesOf s).drop i.toNat)).2.2, ()), ())) := by
  have hl := by_len s
  have hLl : (((bytesOf s).drop i.toNat).length : Int) + i = s.length := by rw [List.length_drop]; omega
  have hb : ∀ j : Nat, (bytesOf s).getD (i + j).toNat 0 = ((bytesOf s).drop i.toNat).getD j 0 := by
    intro j
    rw [List.getD_eq_getElem?_getD, List.getD_eq_getElem?_getD, List.getElem?_drop]
    congr 2
    omega
  have hbd : ∀ x ∈ (bytesOf s).drop i.toNat, 0 ≤ x ∧ x < 256 := fun x hx => by_bd s x (List.mem_of_mem_drop hx)
  rw [brookref1_head.eq hW]
  simp only [Bool.cond_decide]
  generalize (bytesOf s).drop i.toNat = L at *
  match L, hLl, hbd, hb with
  | [], hLl, _, _ =>
    rw [if_pos (by simp at hLl; omega)]; simp [hdr]
  | t :: r, hLl, hbd, hb =>
    have ht := hbd t (by simp)
    have e0 : (bytesOf s).getD i.toNat 0 = t := by have := hb 0; simpa using this
    simp only [List.length_cons] at hLl
    rw [if_neg (by omega), bt_by s (by omega) (by omega), e0]
    simp only [Option.bind_some]
    rw [and31u ht.1 ht.2]
    by_cases h31 : t % 32 = 31
    · rw [if_pos h31]; simp [hdr, h31]
    · rw [if_neg h31, w64 (x := i + 1) (by omega) (by omega)]
      match r, hLl, hbd, hb with
      | [], hLl, _, _ => rw [if_pos (by simp at hLl; omega)]; simp [hdr, h31]
      | b :: q, hLl, hbd, hb =>
        simp only [List.length_cons] at hLl
        have hbb := hbd b (by simp)
        have e1 : (bytesOf s).getD (i + 1).toNat 0 = b := by have := hb 1; simpa using this
        rw [if_neg (by omega), bt_by s (by omega) (by omega), e1]
        simp only [Option.bind_some]
        rw [w64 (x := b) (by omega) (by omega)]
        have hhd : hdr (t :: b :: q) = (if b < 128 then (2, b, 0)
            else if b = 128 ∨ 131 < b then (0, 0, 5)
            else if (q.length : Int) < b - 128 then (0, 0, 6)
            else if q.headD 0 = 0 ∨ num (q.take (b - 128).toNat) < 128 ∨ 1048576 < num (q.take (b - 128).toNat) then (0, 0, 5)
            else (2 + (b - 128), num (q.take (b - 128).toNat), 0)) := by simp only [hdr]; rw [if_neg h31]
        rw [hhd]
        clear hhd
        by_cases hb128 : b < 128
        · rw [if_pos hb128, if_pos hb128, w64 (x := i + 2) (by omega) (by omega)]; rfl
        · rw [if_neg hb128, if_neg hb128, w64 (x := b - 128) (by omega) (by omega)]
          have e3 : (if b - 128 < 1 then some true else some (decide (3 < b - 128))) = some (decide (b = 128 ∨ 131 < b)) := by
            by_cases a : b - 128 < 1
            · rw [if_pos a, decide_eq_true (by omega)]
            · rw [if_neg a]
              congr 1
              exact decide_eq_decide.2 (by omega)
          rw [e3]
          simp only [Option.bind_some, Bool.cond_decide]
          by_cases hk : b = 128 ∨ 131 < b
          · rw [if_pos hk, if_pos hk]; rfl
          · rw [if_neg hk, if_neg hk, w64 (x := i + 2) (by omega) (by omega), w64 (x := i + 2 + (b - 128)) (by omega) (by omega)]
            by_cases hlt : (q.length : Int) < b - 128
            · rw [if_pos (by omega), if_pos hlt]; rfl
            · rw [if_neg (by omega), if_neg hlt]
              have hqg : ∀ j : Nat, (bytesOf s).getD (i + 2 + j).toNat 0 = q.getD j 0 := by
                intro j
                have := hb (j + 2)
                rw [show i + ((j + 2 : Nat) : Int) = i + 2 + j by omega] at this
                rw [this]; rfl
              have hqb : ∀ j : Nat, 0 ≤ q.getD j 0 ∧ q.getD j 0 < 256 := fun j => getD_bd (fun x hx => hbd x (by simp [hx])) j
              have h0 := hqb 0
              have h1 := hqb 1
              have h2 := hqb 2
              have hg0 := hqg 0
              have hg1 := hqg 1
              have hg2 := hqg 2
              rw [show i + 2 + ((0 : Nat) : Int) = i + 2 by omega] at hg0
              have hh : q.headD 0 = q.getD 0 0 := by cases q <;> rfl
              have key : ∀ n, brookref1_head.l17 call lp s i n (b - 128) (b - 128) = _ := fun n => rhead_end hW s i n (b - 128) (q.getD 0 0) hi hs (by omega) (by omega) (by omega) hg0
              have hfin : brookref1_head.l17 call lp s i 0 (b - 128) 0 = some (if q.headD 0 = 0 ∨ num (q.take (b - 128).toNat) < 128 ∨ 1048576 < num (q.take (b - 128).toNat) then ((0, 0, 5, ()), ()) else ((i + 2 + (b - 128), num (q.take (b - 128).toNat), 0, ()), ())) := by
                rw [hh]
                have r0 := rhead_round hW s i 0 (b - 128) 0 (q.getD 0 0) hi hs (by omega) (by omega) (by omega) (by omega) (by omega) (by omega) (by rw [show i + 2 + 0 = i + 2 by omega]; exact hg0) h0.1 h0.2
                rw [show (0 : Int) * 256 + q.getD 0 0 = q.getD 0 0 by omega, show (0 : Int) + 1 = 1 from rfl] at r0
                rcases (show b - 128 = 1 ∨ b - 128 = 2 ∨ b - 128 = 3 by omega) with k1 | k1 | k1
                · rw [r0]
                  have := key (q.getD 0 0)
                  rw [k1] at this ⊢
                  rw [this, num_take1 q (by omega)]
                · have r1 := rhead_round hW s i (q.getD 0 0) (b - 128) 1 (q.getD 1 0) hi hs (by omega) (by omega) (by omega) (by omega) (by omega) (by omega) hg1 h1.1 h1.2
                  rw [show (1 : Int) + 1 = 2 from rfl] at r1
                  rw [r0, r1]
                  have := key (q.getD 0 0 * 256 + q.getD 1 0)
                  rw [k1] at this ⊢
                  rw [this, num_take2 q (by omega)]
                · have r1 := rhead_round hW s i (q.getD 0 0) (b - 128) 1 (q.getD 1 0) hi hs (by omega) (by omega) (by omega) (by omega) (by omega) (by omega) hg1 h1.1 h1.2
                  rw [show (1 : Int) + 1 = 2 from rfl] at r1
                  have r2 := rhead_round hW s i (q.getD 0 0 * 256 + q.getD 1 0) (b - 128) 2 (q.getD 2 0) hi hs (by omega) (by omega) (by omega) (by omega) (by omega) (by omega) hg2 h2.1 h2.2
                  rw [show (2 : Int) + 1 = 3 from rfl] at r2
                  rw [r0, r1, r2]
                  have := key ((q.getD 0 0 * 256 + q.getD 1 0) * 256 + q.getD 2 0)
                  rw [k1] at this ⊢
                  rw [this, num_take3 q (by omega)]
              rw [hfin]
              by_cases c1 : q.headD 0 = 0 ∨ num (q.take (b - 128).toNat) < 128 ∨ 1048576 < num (q.take (b - 128).toNat)
              · rw [if_pos c1, if_pos c1]; rfl
              · rw [if_neg c1, if_neg c1]
                simp only [if_true]
                congr 3
                omega
/-- what the reference answers: the same, in its own order -/
abbrev Rr := (Int × List UInt8 × List (List D) × Int × Int × Unit) × Unit
def rr (x : Rg) : Rr := ((x.1.1.1, x.1.1.2.1, x.1.1.2.2.1, x.1.2.1, x.1.2.2.1, ()), ())
theorem rget_loop (d : Nat) (hd1 : d ≤ 100) (ih : ∀ (s : List UInt8) (i : Int), s.length ≤ 1073741824 → 0 ≤ i → i ≤ s.length → brookref1_get.f call s i d = some (rr (res i (parse d ((bytesOf s).drop i.toNat)))))
    (s : List UInt8) (hs : s.length ≤ 1073741824) (t f n : Int) (hf : 0 ≤ f) (hf2 : f ≤ 1073741824) (hn : n = s.length) : ∀ (m : Nat) (i : Int) (acc : List Tlv), 0 ≤ i → i ≤ n → (n - i).toNat ≤ m → (acc.length : Int) ≤ i →
      brookref1_get.l16 call lp ((d : Int) + 1) f n s i (0, [], [], 0, 0, ()) (t, [], ()) (dTs acc) = some (rr (resL t (f + n) acc (items (parse d) (m + 1) ((bytesOf s).drop i.toNat)))) := by
  intro m
  induction m with
  | zero =>
    intro i acc hi hi2 hm hacc
    rw [brookref1_get.l16.eq hW]
    simp only [Bool.cond_decide]
    rw [if_neg (by omega)]
    have : (bytesOf s).drop i.toNat = [] := List.drop_eq_nil_of_le (by rw [by_len]; omega)
    rw [this, items_nil, w64 (by omega) (by omega)]
    simp [resL, rr]
  | succ m ihm =>
    intro i acc hi hi2 hm hacc
    rw [brookref1_get.l16.eq hW]
    simp only [Bool.cond_decide]
    by_cases hlt : i < n
    · rw [if_pos hlt, w64 (x := (d : Int) + 1 - 1) (by omega) (by omega), show (d : Int) + 1 - 1 = d by omega, ih s i hs hi (by omega)]
      simp only [Option.bind_some, Bool.cond_not, Bool.cond_decide]
      have hbd : ∀ x ∈ (bytesOf s).drop i.toNat, 0 ≤ x ∧ x < 256 := bd_drop (by_bd s) _
      have hlen : ((bytesOf s).drop i.toNat).length = (n - i).toNat := by rw [List.length_drop, by_len]; omega
      have hne : (bytesOf s).drop i.toNat ≠ [] := by intro h; rw [h] at hlen; simp at hlen; omega
      have hdd : ∀ m : Int, 0 ≤ m → (bytesOf s).drop (i + m).toNat = ((bytesOf s).drop i.toNat).drop m.toNat := by
        intro m hm
        rw [List.drop_drop]
        congr 1
        omega
      rw [items_cons _ _ hne]
      have hgood := parse_good d _ hbd
      generalize (bytesOf s).drop i.toNat = L at *
      generalize hp : parse d L = r at *
      by_cases c : r.1 = 0
      · have hm := hgood c
        rw [if_pos c]
        unfold res
        rw [if_pos c]
        simp only [rr, if_true]
        rw [app_eq (by simp only [dTs_len, List.length_cons, List.length_nil]; omega) (by simp)]
        simp only [Option.bind_some]
        have hnext := ihm (i + r.2.2) (acc ++ [r.2.1]) (by omega) (by omega) (by omega) (by simp; omega)
        rw [hdd _ (by omega), dTs_append] at hnext
        have e : dTs [r.2.1] = [[D.int .i64 r.2.1.f0, D.str r.2.1.f1, D.list (dTs r.2.1.f2)]] := by simp [dTs, dT_eq]
        rw [e] at hnext
        rw [hnext]
        cases hit : items (parse d) (m + 1) (L.drop r.2.2.toNat) with
        | none => rfl
        | some ts => simp [resL, rr]
      · rw [if_neg c]
        unfold res
        rw [if_neg c]
        simp only [rr, c, if_false]
        rfl
    · rw [if_neg hlt]
      have : (bytesOf s).drop i.toNat = [] := List.drop_eq_nil_of_le (by rw [by_len]; omega)
      rw [this, items_nil, w64 (by omega) (by omega)]
      simp [resL, rr]
theorem rget_node (s : List UInt8) (i a2 : Int) (hs : s.length ≤ 1073741824) (hi : 0 ≤ i) (hi2 : i ≤ s.length) (sub : Option (List Int → R)) (h0 : sub = none → a2 < 1)
    (h1 : ∀ p, sub = some p → 1 ≤ a2 ∧ ∀ t f n, 0 ≤ f → 0 ≤ n → i + f + n ≤ s.length → brookref1_get.l16 call lp a2 (i + f) n ((s.drop (i + f).toNat).take (i + f + n - (i + f)).toNat) 0 (0, [], [], 0, 0, ()) (t, [], ()) [] = some (rr (resL t (i + f + n) [] (items p (n.toNat + 1) ((((bytesOf s).drop i.toNat).drop f.toNat).take n.toNat))))) :
    brookref1_get.f call s i a2 = some (rr (res i (node ((bytesOf s).drop i.toNat) sub))) := by
  rw [brookref1_get.eq hW]
  simp only [Bool.cond_decide]
  rw [if_neg (by omega), decide_eq_false (show ¬ (s.length : Int) < i by omega)]
  simp only [Option.bind_some, cond_false]
  rw [rhead_eq hW s i hs hi hi2]
  have hl := by_len s
  have hbd : ∀ x ∈ (bytesOf s).drop i.toNat, 0 ≤ x ∧ x < 256 := bd_drop (by_bd s) _
  have hok := @hdr_ok _ hbd
  have hok2 := @hd_ok _ hbd
  have hlf := fun (f n : Int) (hf : 0 ≤ f) (hn : 0 ≤ n) => leaf_at (s := s) hi hf hn
  have hLl : (((bytesOf s).drop i.toNat).length : Int) + i = s.length := by rw [List.length_drop]; omega
  have hbt : (bytesOf s).drop i.toNat ≠ [] → bt s i = some (((bytesOf s).drop i.toNat).headD 0) := by
    intro hne
    have : i < s.length := by
      have : 0 < ((bytesOf s).drop i.toNat).length := List.length_pos_iff.2 hne
      omega
    rw [bt_by s hi this, List.headD_eq_head?_getD, List.head?_drop, List.getD_eq_getElem?_getD]
  have hdd := hd_hdr ((bytesOf s).drop i.toNat)
  unfold node body
  generalize (bytesOf s).drop i.toNat = L at *
  by_cases c : (hdr L).2.2 = 0
  · obtain ⟨h2, h5, h3, h4, h6, hne⟩ := hok c
    rw [if_pos c] at hdd ⊢
    simp only [Option.bind_some, Bool.cond_not, Bool.cond_decide, if_true]
    rw [w64 (x := (s.length : Int) - (i + (hdr L).1)) (by omega) (by omega)]
    by_cases c6 : (L.length : Int) - (hdr L).1 < (hdr L).2.1
    · rw [if_pos c6] at hdd
      rw [if_pos (by omega), hdd]
      simp [res, rr]
    · rw [if_neg c6] at hdd
      rw [if_neg (by omega), hbt hne]
      simp only [Option.bind_some, Bool.cond_decide]
      rw [hdd] at hok2 ⊢
      obtain ⟨t, q, _, e1, t0, t1, _⟩ := hok2 rfl
      simp only at e1
      simp only [if_true]
      rw [e1, w64 (x := t) (by omega) (by omega), and32 t0 t1, w64 (x := i + (hdr L).1 + (hdr L).2.1) (by omega) (by omega)]
      by_cases c3 : t / 32 % 2 = 0
      · rw [if_pos c3, if_pos (by omega), subs_eq s (by omega) (by omega) (by omega), hlf _ _ (by omega) h3]
        simp [res, rr, Int.add_assoc, dTs]
      · rw [if_neg c3, if_neg (by omega)]
        cases sub with
        | none =>
          rw [if_pos (h0 rfl)]
          simp [res, rr]
        | some p =>
          obtain ⟨g1, g2⟩ := h1 p rfl
          have hB : ((L.drop (hdr L).1.toNat).take (hdr L).2.1.toNat).length = (hdr L).2.1.toNat := by rw [List.length_take, List.length_drop]; omega
          rw [if_neg (by omega), subs_eq s (by omega) (by omega) (by omega)]
          simp only [Option.bind_some]
          rw [g2 t _ _ (by omega) h3 (by omega), hB]
          cases hit : items p ((hdr L).2.1.toNat + 1) ((L.drop (hdr L).1.toNat).take (hdr L).2.1.toNat) with
          | none => simp [resL, res, rr]
          | some ts => simp [resL, res, rr, Int.add_assoc]
  · rw [if_neg c] at hdd ⊢
    simp only [Option.bind_some, Bool.cond_not, Bool.cond_decide, c, if_false]
    rw [hdd]
    simp [res, rr, c]
theorem rget_eq : ∀ (d : Nat), d ≤ 100 → ∀ (s : List UInt8) (i : Int), s.length ≤ 1073741824 → 0 ≤ i → i ≤ s.length → brookref1_get.f call s i d = some (rr (res i (parse d ((bytesOf s).drop i.toNat)))) := by
  intro d
  induction d with
  | zero =>
    intro _ s i hs hi hi2
    exact rget_node hW s i _ hs hi hi2 none (fun _ => by omega) (fun p hp => by cases hp)
  | succ d ih =>
    intro hd1 s i hs hi hi2
    refine rget_node hW s i _ hs hi hi2 (some (parse d)) (fun h => by cases h) (fun p hp => ?_)
    injection hp with hp
    subst hp
    refine ⟨by omega, fun t f n hf hn hle => ?_⟩
    have hx : (((s.drop (i + f).toNat).take (i + f + n - (i + f)).toNat).length : Int) = n := by rw [List.length_take, List.length_drop]; omega
    have := rget_loop hW d (by omega) (ih (by omega)) ((s.drop (i + f).toNat).take (i + f + n - (i + f)).toNat) (by omega) t (i + f) n (by omega) (by omega) hx.symm n.toNat 0 [] (by omega) (by omega) (by omega) (by simp)
    rw [leaf_at hi hf hn, by_strOf (bd_take (bd_drop (bd_drop (by_bd s) _) _) _), ← leaf_at hi hf hn] at this
    simp only [Int.toNat_zero, List.drop_zero] at this
    rw [show (((d + 1 : Nat) : Int)) = (d : Int) + 1 by omega]
    exact this
theorem GetTlv_in (s : List UInt8) {i : Int} (hs : s.length ≤ 1073741824) (h0 : 0 ≤ i) (h1 : i ≤ s.length) : brookref1_GetTlv.f call s i = some (rr (res i (parse 12 ((bytesOf s).drop i.toNat)))) := by
  have := rget_eq hW 12 (by omega) s i hs h0 h1
  rw [show ((12 : Nat) : Int) = 12 from rfl] at this
  rw [brookref1_GetTlv.eq hW, this]; rfl
end
end Go.Proofs.YtcpidokhkcmdfaaGreat.B
