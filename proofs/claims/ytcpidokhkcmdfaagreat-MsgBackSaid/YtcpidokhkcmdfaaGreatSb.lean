/- Tlvs and their bytes, by lists of numbers: what bytes say, what is put, and that one is told again by the other. Conditions: those of each theorem. -/
import Derived.Test.YtcpidokhkcmdfaaGreatIm3
namespace Go.Proofs.YtcpidokhkcmdfaaGreat.B
open Go Go.Proofs.YtcpidokhkcmdfaaGreat.I
set_option linter.unusedVariables false
set_option linter.unusedSimpArgs false
structure Tlv where
  f0 : Int
  f1 : List UInt8
  f2 : List Tlv
/-- bytes as a list of numbers -/
def bytesOf (s : List UInt8) : List Int := s.map fun b => (b.toNat : Int)
def strOfNums (l : List Int) : List UInt8 := l.map fun n => UInt8.ofNat n.toNat
theorem by_len (s : List UInt8) : (bytesOf s).length = s.length := by simp [bytesOf]
theorem by_bd (s : List UInt8) : ∀ x ∈ bytesOf s, 0 ≤ x ∧ x < 256 := by
  intro x hx
  unfold bytesOf at hx
  obtain ⟨b, _, rfl⟩ := List.mem_map.1 hx
  have := b.toNat_lt
  omega
theorem by_append (s t : List UInt8) : bytesOf (s ++ t) = bytesOf s ++ bytesOf t := by simp [bytesOf]
theorem by_drop (s : List UInt8) (n : Nat) : bytesOf (s.drop n) = (bytesOf s).drop n := by simp [bytesOf]
theorem by_take (s : List UInt8) (n : Nat) : bytesOf (s.take n) = (bytesOf s).take n := by simp [bytesOf]
theorem by_inj {s t : List UInt8} (h : bytesOf s = bytesOf t) : s = t := by
  unfold bytesOf at h
  refine List.map_inj_right (f := fun b : UInt8 => (b.toNat : Int)) ?_ |>.1 h
  intro x y hxy
  have : x.toNat = y.toNat := by omega
  exact UInt8.toNat_inj.1 this
theorem by_strOf {l : List Int} (h : ∀ x ∈ l, 0 ≤ x ∧ x < 256) : bytesOf (strOfNums l) = l := by
  unfold bytesOf strOfNums
  simp only [List.map_map]
  have : ∀ x ∈ l, ((fun b : UInt8 => (b.toNat : Int)) ∘ fun n : Int => UInt8.ofNat n.toNat) x = x := by
    intro x hx
    have := h x hx
    simp only [Function.comp, UInt8.toNat_ofNat']
    omega
  rw [List.map_congr_left this]
  simp
theorem strOf_by (s : List UInt8) : strOfNums (bytesOf s) = s := by_inj (by_strOf (by_bd s))
theorem getD_bd {l : List Int} (h : ∀ x ∈ l, 0 ≤ x ∧ x < 256) (i : Nat) : 0 ≤ l.getD i 0 ∧ l.getD i 0 < 256 := by
  rw [List.getD_eq_getElem?_getD]
  cases hi : l[i]? with
  | none => simp
  | some x =>
    have := h x (List.mem_of_getElem? hi)
    simpa using this

def num (l : List Int) : Int := l.foldl (fun a x => a * 256 + x) 0
/-- tag, where the content begins, how long it is, an error -/
def hd : List Int → Int × Int × Int × Int
  | [] => (0, 0, 0, 6)
  | t :: r => if t % 32 = 31 then (0, 0, 0, 5) else
    match r with
    | [] => (0, 0, 0, 6)
    | b :: q =>
      if b < 128 then (if (q.length : Int) < b then (0, 0, 0, 6) else (t, 2, b, 0))
      else if b = 128 ∨ 131 < b then (0, 0, 0, 5)
      else if (q.length : Int) < b - 128 then (0, 0, 0, 6)
      else if q.headD 0 = 0 ∨ num (q.take (b - 128).toNat) < 128 ∨ 1048576 < num (q.take (b - 128).toNat) then (0, 0, 0, 5)
      else if (q.length : Int) - (b - 128) < num (q.take (b - 128).toNat) then (0, 0, 0, 6)
      else (t, 2 + (b - 128), num (q.take (b - 128).toNat), 0)

def headS (s : List Int) (i : Int) : Int × Int × Int × Int :=
  if i < 0 ∨ (s.length : Int) < i then (0, 0, 0, 1)
  else if (hd (s.drop i.toNat)).2.2.2 = 0 then ((hd (s.drop i.toNat)).1, i + (hd (s.drop i.toNat)).2.1, i + (hd (s.drop i.toNat)).2.1 + (hd (s.drop i.toNat)).2.2.1, 0)
  else (0, 0, 0, (hd (s.drop i.toNat)).2.2.2)

theorem num_take1 (q : List Int) (h : 1 ≤ q.length) : num (q.take (1 : Int).toNat) = q.getD 0 0 := by
  match q, h with
  | c0 :: q1, _ => simp [num]
theorem num_take2 (q : List Int) (h : 2 ≤ q.length) : num (q.take (2 : Int).toNat) = q.getD 0 0 * 256 + q.getD 1 0 := by
  match q, h with
  | c0 :: c1 :: q1, _ => simp [num]
theorem num_take3 (q : List Int) (h : 3 ≤ q.length) : num (q.take (3 : Int).toNat) = (q.getD 0 0 * 256 + q.getD 1 0) * 256 + q.getD 2 0 := by
  match q, h with
  | c0 :: c1 :: c2 :: q1, _ => simp [num]
/-- what stands behind the bytes of a long length -/
def headS2 (i t c0 ql n kk : Int) : Int × Int × Int × Int :=
  if c0 = 0 ∨ n < 128 ∨ 1048576 < n then (0, 0, 0, 5) else if ql - kk < n then (0, 0, 0, 6) else (t, i + (2 + kk), i + (2 + kk) + n, 0)

/-- where the content begins, how long it would be, an error -/
def hdr : List Int → Int × Int × Int
  | [] => (0, 0, 6)
  | t :: r => if t % 32 = 31 then (0, 0, 5) else
    match r with
    | [] => (0, 0, 6)
    | b :: q =>
      if b < 128 then (2, b, 0)
      else if b = 128 ∨ 131 < b then (0, 0, 5)
      else if (q.length : Int) < b - 128 then (0, 0, 6)
      else if q.headD 0 = 0 ∨ num (q.take (b - 128).toNat) < 128 ∨ 1048576 < num (q.take (b - 128).toNat) then (0, 0, 5)
      else (2 + (b - 128), num (q.take (b - 128).toNat), 0)

theorem hd_hdr (l : List Int) : hd l = if (hdr l).2.2 = 0 then (if (l.length : Int) - (hdr l).1 < (hdr l).2.1 then (0, 0, 0, 6) else (l.headD 0, (hdr l).1, (hdr l).2.1, 0)) else (0, 0, 0, (hdr l).2.2) := by
  match l with
  | [] => simp [hd, hdr]
  | t :: r =>
    by_cases h31 : t % 32 = 31
    · simp [hd, hdr, h31]
    · match r with
      | [] => simp [hd, hdr, h31]
      | b :: q =>
        simp only [hd, hdr]
        rw [if_neg h31, if_neg h31]
        have e : ((t :: b :: q).length : Int) = q.length + 2 := by simp only [List.length_cons]; omega
        rw [e]
        by_cases c1 : b < 128
        · rw [if_pos c1, if_pos c1]
          by_cases c2 : (q.length : Int) < b
          · rw [if_pos c2]; simp only [if_true]; rw [if_pos (by omega)]
          · rw [if_neg c2]; simp only [if_true]; rw [if_neg (by omega)]; rfl
        · rw [if_neg c1, if_neg c1]
          by_cases c2 : b = 128 ∨ 131 < b
          · rw [if_pos c2, if_pos c2]; simp
          · rw [if_neg c2, if_neg c2]
            by_cases c3 : (q.length : Int) < b - 128
            · rw [if_pos c3, if_pos c3]; simp
            · rw [if_neg c3, if_neg c3]
              by_cases c4 : q.headD 0 = 0 ∨ num (q.take (b - 128).toNat) < 128 ∨ 1048576 < num (q.take (b - 128).toNat)
              · rw [if_pos c4, if_pos c4]; simp
              · rw [if_neg c4, if_neg c4]
                by_cases c5 : (q.length : Int) - (b - 128) < num (q.take (b - 128).toNat)
                · rw [if_pos c5]; simp only [if_true]; rw [if_pos (by omega)]
                · rw [if_neg c5]; simp only [if_true]; rw [if_neg (by omega)]; rfl


abbrev R := Int × Tlv × Int
def no : Tlv := ⟨0, [], []⟩
/-- tlvs one behind the other, up to the end -/
def items (p : List Int → R) : Nat → List Int → Option (List Tlv)
  | 0, _ => none
  | k + 1, l => if l = [] then some [] else if (p l).1 = 0 then (items p k (l.drop (p l).2.2.toNat)).map (fun ts => (p l).2.1 :: ts) else none
/-- the content of a list that begins with a head -/
def body (l : List Int) : List Int := (l.drop (hd l).2.1.toNat).take (hd l).2.2.1.toNat
def node (l : List Int) (sub : Option (List Int → R)) : R :=
  if (hd l).2.2.2 = 0 then
    if (hd l).1 / 32 % 2 = 0 then (0, ⟨(hd l).1, strOfNums (body l), []⟩, (hd l).2.1 + (hd l).2.2.1)
    else match sub with
      | none => (5, no, 0)
      | some p => match items p ((body l).length + 1) (body l) with
        | none => (5, no, 0)
        | some ts => (0, ⟨(hd l).1, [], ts⟩, (hd l).2.1 + (hd l).2.2.1)
  else ((hd l).2.2.2, no, 0)
/-- the tlv that a list begins with, so deep at most -/
def parse : Nat → List Int → R
  | 0, l => node l none
  | d + 1, l => node l (some (parse d))

theorem hd_ok {l : List Int} (hb : ∀ x ∈ l, 0 ≤ x ∧ x < 256) (h : (hd l).2.2.2 = 0) : ∃ t q, l = t :: q ∧ (hd l).1 = t ∧ 0 ≤ t ∧ t < 256 ∧ 2 ≤ (hd l).2.1 ∧ 0 ≤ (hd l).2.2.1 ∧ (hd l).2.1 + (hd l).2.2.1 ≤ l.length ∧ (hd l).2.2.1 ≤ 1048576 := by
  match l, hb, h with
  | [], _, h => simp [hd] at h
  | t :: r, hb, h =>
    have ht := hb t (by simp)
    by_cases h31 : t % 32 = 31
    · simp [hd, h31] at h
    · match r, hb, h with
      | [], _, h => simp [hd, h31] at h
      | b :: q, hb, h =>
        have hbb := hb b (by simp)
        have e : ((t :: b :: q).length : Int) = q.length + 2 := by simp only [List.length_cons]; omega
        refine ⟨t, b :: q, rfl, ?_⟩
        rw [e]
        simp only [hd] at h ⊢
        rw [if_neg h31] at h ⊢
        by_cases c1 : b < 128
        · rw [if_pos c1] at h ⊢
          by_cases c2 : (q.length : Int) < b
          · rw [if_pos c2] at h; simp at h
          · rw [if_neg c2]; exact ⟨rfl, ht.1, ht.2, by simp, hbb.1, by simp only; omega, by simp only; omega⟩
        · rw [if_neg c1] at h ⊢
          by_cases c2 : b = 128 ∨ 131 < b
          · rw [if_pos c2] at h; simp at h
          · rw [if_neg c2] at h ⊢
            by_cases c3 : (q.length : Int) < b - 128
            · rw [if_pos c3] at h; simp at h
            · rw [if_neg c3] at h ⊢
              by_cases c4 : q.headD 0 = 0 ∨ num (q.take (b - 128).toNat) < 128 ∨ 1048576 < num (q.take (b - 128).toNat)
              · rw [if_pos c4] at h; simp at h
              · rw [if_neg c4] at h ⊢
                by_cases c5 : (q.length : Int) - (b - 128) < num (q.take (b - 128).toNat)
                · rw [if_pos c5] at h; simp at h
                · rw [if_neg c5]; exact ⟨rfl, ht.1, ht.2, by simp only; omega, by simp only; omega, by simp only; omega, by simp only; omega⟩

theorem node_ok {l : List Int} {sub : Option (List Int → R)} (hb : ∀ x ∈ l, 0 ≤ x ∧ x < 256) (h : (node l sub).1 = 0) : (hd l).2.2.2 = 0 ∧ (node l sub).2.2 = (hd l).2.1 + (hd l).2.2.1 := by
  unfold node at h ⊢
  by_cases c : (hd l).2.2.2 = 0
  · rw [if_pos c] at h ⊢
    refine ⟨c, ?_⟩
    by_cases c2 : (hd l).1 / 32 % 2 = 0
    · rw [if_pos c2]
    · rw [if_neg c2] at h ⊢
      cases sub with
      | none => simp at h
      | some p =>
        simp only at h ⊢
        cases hi : items p ((body l).length + 1) (body l) with
        | none => rw [hi] at h; simp at h
        | some ts => rfl
  · rw [if_neg c] at h
    exact absurd h c
def Good (p : List Int → R) : Prop := ∀ l, (∀ x ∈ l, 0 ≤ x ∧ x < 256) → (p l).1 = 0 → 2 ≤ (p l).2.2 ∧ (p l).2.2 ≤ l.length
theorem node_good (sub : Option (List Int → R)) : Good (fun l => node l sub) := by
  intro l hb h
  obtain ⟨h1, h2⟩ := node_ok hb h
  obtain ⟨t, q, _, _, _, _, h3, h4, h5, _⟩ := hd_ok hb h1
  show 2 ≤ (node l sub).2.2 ∧ (node l sub).2.2 ≤ _
  rw [h2]
  omega
theorem parse_node (d : Nat) (l : List Int) : ∃ sub, parse d l = node l sub := by
  cases d with
  | zero => exact ⟨none, rfl⟩
  | succ d => exact ⟨some (parse d), rfl⟩
theorem parse_good (d : Nat) : Good (parse d) := by
  intro l hb h
  obtain ⟨sub, e⟩ := parse_node d l
  rw [e] at h ⊢
  exact node_good sub l hb h

theorem items_nil (p : List Int → R) (k : Nat) : items p (k + 1) [] = some [] := by simp [items]
theorem items_cons (p : List Int → R) (k : Nat) {l : List Int} (hl : l ≠ []) : items p (k + 1) l = if (p l).1 = 0 then (items p k (l.drop (p l).2.2.toNat)).map (fun ts => (p l).2.1 :: ts) else none := by
  simp only [items]
  rw [if_neg hl]
theorem bd_drop {l : List Int} (hb : ∀ x ∈ l, 0 ≤ x ∧ x < 256) (a : Nat) : ∀ x ∈ l.drop a, 0 ≤ x ∧ x < 256 := fun x hx => hb x (List.mem_of_mem_drop hx)
theorem bd_take {l : List Int} (hb : ∀ x ∈ l, 0 ≤ x ∧ x < 256) (a : Nat) : ∀ x ∈ l.take a, 0 ≤ x ∧ x < 256 := fun x hx => hb x (List.mem_of_mem_take hx)
/-- the fuel is enough -/
theorem items_fuel {p : List Int → R} (hp : Good p) : ∀ (n : Nat) (l : List Int), l.length ≤ n → (∀ x ∈ l, 0 ≤ x ∧ x < 256) → ∀ f g, l.length < f → l.length < g → items p f l = items p g l := by
  intro n
  induction n with
  | zero =>
    intro l hl hb f g hf hg
    obtain rfl : l = [] := List.eq_nil_of_length_eq_zero (by omega)
    obtain ⟨f, rfl⟩ : ∃ m, f = m + 1 := ⟨f - 1, by omega⟩
    obtain ⟨g, rfl⟩ : ∃ m, g = m + 1 := ⟨g - 1, by omega⟩
    rw [items_nil, items_nil]
  | succ n ih =>
    intro l hl hb f g hf hg
    obtain ⟨f, rfl⟩ : ∃ m, f = m + 1 := ⟨f - 1, by omega⟩
    obtain ⟨g, rfl⟩ : ∃ m, g = m + 1 := ⟨g - 1, by omega⟩
    by_cases hn : l = []
    · subst hn; rw [items_nil, items_nil]
    · rw [items_cons p f hn, items_cons p g hn]
      by_cases c : (p l).1 = 0
      · rw [if_pos c, if_pos c]
        have hg2 := hp l hb c
        have hl0 : 0 < l.length := by cases l with | nil => exact absurd rfl hn | cons => simp
        rw [ih (l.drop (p l).2.2.toNat) (by rw [List.length_drop]; omega) (bd_drop hb _) f g (by rw [List.length_drop]; omega) (by rw [List.length_drop]; omega)]
      · rw [if_neg c, if_neg c]

theorem eta (x : Tlv) : (⟨x.f0, x.f1, x.f2⟩ : Tlv) = x := by cases x; rfl
theorem body_at {s : List UInt8} {i : Int} (hi : 0 ≤ i) {f n : Int} (hf : 0 ≤ f) (hn : 0 ≤ n) : ((bytesOf s).take (i + f + n).toNat).drop (i + f).toNat = ((((bytesOf s).drop i.toNat).drop f.toNat).take n.toNat) := by
  rw [List.drop_drop, List.drop_take]
  congr 1
  · omega
  · congr 1; omega
theorem hdr_ok {l : List Int} (hb : ∀ x ∈ l, 0 ≤ x ∧ x < 256) (h : (hdr l).2.2 = 0) : 2 ≤ (hdr l).1 ∧ (hdr l).1 ≤ 5 ∧ 0 ≤ (hdr l).2.1 ∧ (hdr l).2.1 ≤ 1048576 ∧ (hdr l).1 ≤ l.length ∧ l ≠ [] := by
  match l, hb, h with
  | [], _, h => simp [hdr] at h
  | t :: r, hb, h =>
    by_cases h31 : t % 32 = 31
    · simp [hdr, h31] at h
    · match r, hb, h with
      | [], _, h => simp [hdr, h31] at h
      | b :: q, hb, h =>
        have hbb := hb b (by simp)
        have e : ((t :: b :: q).length : Int) = q.length + 2 := by simp only [List.length_cons]; omega
        rw [e]
        simp only [hdr] at h ⊢
        rw [if_neg h31] at h ⊢
        by_cases c1 : b < 128
        · rw [if_pos c1]; exact ⟨by simp, by simp, hbb.1, by simp only; omega, by simp only; omega, by simp⟩
        · rw [if_neg c1] at h ⊢
          by_cases c2 : b = 128 ∨ 131 < b
          · rw [if_pos c2] at h; simp at h
          · rw [if_neg c2] at h ⊢
            by_cases c3 : (q.length : Int) < b - 128
            · rw [if_pos c3] at h; simp at h
            · rw [if_neg c3] at h ⊢
              by_cases c4 : q.headD 0 = 0 ∨ num (q.take (b - 128).toNat) < 128 ∨ 1048576 < num (q.take (b - 128).toNat)
              · rw [if_pos c4] at h; simp at h
              · rw [if_neg c4]; exact ⟨by simp only; omega, by simp only; omega, by simp only; omega, by simp only; omega, by simp only; omega, by simp⟩


mutual
def wt : Tlv → Nat
  | ⟨_, _, l⟩ => 1 + wts l
def wts : List Tlv → Nat
  | [] => 0
  | x :: r => wt x + wts r
end
theorem wt_eq (x : Tlv) : wt x = 1 + wts x.f2 := by cases x; rfl
theorem wt_pos (x : Tlv) : 1 ≤ wt x := by rw [wt_eq]; omega
theorem wts_len : ∀ l : List Tlv, l.length ≤ wts l
  | [] => by simp [wts]
  | x :: r => by
    have := wts_len r
    have := wt_pos x
    simp only [wts, List.length_cons]
    omega
theorem wt_mem : ∀ (l : List Tlv) (x : Tlv), x ∈ l → wt x ≤ wts l
  | y :: r, x, h => by
    simp only [wts]
    rcases List.mem_cons.1 h with rfl | h
    · omega
    · have := wt_mem r x h
      omega
theorem wts_append : ∀ a b : List Tlv, wts (a ++ b) = wts a + wts b
  | [], b => by simp [wts]
  | x :: r, b => by simp only [List.cons_append, wts, wts_append r b]; omega
theorem ext {a b : Tlv} : a = b ↔ a.f0 = b.f0 ∧ a.f1 = b.f1 ∧ a.f2 = b.f2 := by
  cases a; cases b
  simp

theorem items_wt {p : List Int → R} (hp : Good p) (hw : ∀ l, (∀ x ∈ l, 0 ≤ x ∧ x < 256) → (p l).1 = 0 → (wt (p l).2.1 : Int) ≤ (p l).2.2) : ∀ (k : Nat) (l : List Int) (ts : List Tlv), (∀ x ∈ l, 0 ≤ x ∧ x < 256) → items p k l = some ts → wts ts ≤ l.length := by
  intro k
  induction k with
  | zero => intro l ts _ h; simp [items] at h
  | succ k ih =>
    intro l ts hb h
    by_cases hn : l = []
    · subst hn
      rw [items_nil] at h
      obtain rfl := Option.some.inj h
      simp [wts]
    · rw [items_cons p k hn] at h
      by_cases c : (p l).1 = 0
      · rw [if_pos c] at h
        obtain ⟨ts', h1, rfl⟩ := Option.map_eq_some_iff.1 h
        have h2 := ih _ ts' (bd_drop hb _) h1
        have h3 := hp l hb c
        have h4 := hw l hb c
        rw [List.length_drop] at h2
        simp only [wts]
        omega
      · rw [if_neg c] at h
        cases h
theorem node_wt {l : List Int} {sub : Option (List Int → R)} (hb : ∀ x ∈ l, 0 ≤ x ∧ x < 256) (h : (node l sub).1 = 0)
    (hs : ∀ p, sub = some p → Good p ∧ ∀ l, (∀ x ∈ l, 0 ≤ x ∧ x < 256) → (p l).1 = 0 → (wt (p l).2.1 : Int) ≤ (p l).2.2) : (wt (node l sub).2.1 : Int) ≤ (node l sub).2.2 := by
  obtain ⟨c, _⟩ := node_ok hb h
  obtain ⟨t, q, _, _, _, _, h3, h4, h5, _⟩ := hd_ok hb c
  unfold node at h ⊢
  rw [if_pos c] at h ⊢
  by_cases c2 : (hd l).1 / 32 % 2 = 0
  · rw [if_pos c2]
    simp only [wt, wts]
    omega
  · rw [if_neg c2] at h ⊢
    cases sub with
    | none => simp at h
    | some p =>
      simp only at h ⊢
      cases hi : items p ((body l).length + 1) (body l) with
      | none => rw [hi] at h; simp at h
      | some ts =>
        obtain ⟨g1, g2⟩ := hs p rfl
        have := items_wt g1 g2 _ (body l) ts (bd_take (bd_drop hb _) _) hi
        have hB : (body l).length = (hd l).2.2.1.toNat := by unfold body; rw [List.length_take, List.length_drop]; omega
        simp only [wt]
        omega
theorem parse_wt : ∀ (d : Nat) (l : List Int), (∀ x ∈ l, 0 ≤ x ∧ x < 256) → (parse d l).1 = 0 → (wt (parse d l).2.1 : Int) ≤ (parse d l).2.2 := by
  intro d
  induction d with
  | zero => intro l hb h; exact node_wt hb h (fun p hp => by cases hp)
  | succ d ih => intro l hb h; exact node_wt hb h (fun p hp => by cases hp; exact ⟨parse_good d, ih⟩)
theorem parse_no (d : Nat) (l : List Int) (h : (parse d l).1 ≠ 0) : (parse d l).2 = (no, 0) := by
  obtain ⟨sub, e⟩ := parse_node d l
  rw [e] at h ⊢
  unfold node at h ⊢
  by_cases c : (hd l).2.2.2 = 0
  · rw [if_pos c] at h ⊢
    by_cases c2 : (hd l).1 / 32 % 2 = 0
    · rw [if_pos c2] at h; simp at h
    · rw [if_neg c2] at h ⊢
      cases sub with
      | none => rfl
      | some p =>
        simp only at h ⊢
        cases hi : items p ((body l).length + 1) (body l) with
        | none => rfl
        | some ts => rw [hi] at h; simp at h
  · rw [if_neg c]

/-- a length as bytes -/
def lenb (n : Int) : List Int :=
  if n < 128 then [n] else if n < 256 then [129, n] else if n < 65536 then [130, n / 256, n % 256] else [131, n / 65536, n / 256 % 256, n % 256]
theorem lenb_len (n : Int) : (lenb n).length = if n < 128 then 1 else if n < 256 then 2 else if n < 65536 then 3 else 4 := by
  unfold lenb
  split
  · rfl
  · split
    · rfl
    · split <;> rfl
theorem lenb_bd {n : Int} (h0 : 0 ≤ n) (h1 : n ≤ 1048576) : ∀ x ∈ lenb n, 0 ≤ x ∧ x < 256 := by
  intro x hx
  unfold lenb at hx
  split at hx
  · simp at hx; omega
  · split at hx
    · simp at hx; omega
    · split at hx <;> (simp at hx; omega)

theorem lenb_1 {n : Int} (h : n < 128) : lenb n = [n] := by unfold lenb; rw [if_pos h]
theorem lenb_2 {n : Int} (h : ¬ n < 128) (h2 : n < 256) : lenb n = [129, n] := by unfold lenb; rw [if_neg h, if_pos h2]
theorem lenb_3 {n : Int} (h : ¬ n < 256) (h2 : n < 65536) : lenb n = [130, n / 256, n % 256] := by unfold lenb; rw [if_neg (by omega), if_neg h, if_pos h2]
theorem lenb_4 {n : Int} (h : ¬ n < 65536) : lenb n = [131, n / 65536, n / 256 % 256, n % 256] := by unfold lenb; rw [if_neg (by omega), if_neg (by omega), if_neg h]
/-- a head that is whole: what it says -/
theorem hd_mk {t n : Int} (ht : t % 32 ≠ 31) (h0 : 0 ≤ n) (h1 : n ≤ 1048576) (rest : List Int) :
    hd (t :: (lenb n ++ rest)) = if (rest.length : Int) < n then (0, 0, 0, 6) else (t, (1 : Int) + ((lenb n).length : Int), n, 0) := by
  by_cases c1 : n < 128
  · rw [lenb_1 c1]
    simp only [List.cons_append, List.nil_append, hd, if_neg ht, if_pos c1]
    rfl
  · by_cases c2 : n < 256
    · rw [lenb_2 c1 c2]
      simp only [List.cons_append, List.nil_append, hd, if_neg ht]
      rw [if_neg (by omega), if_neg (by omega), if_neg (by simp only [List.length_cons]; omega)]
      have e : num ((n :: rest).take ((129 : Int) - 128).toNat) = n := by simp [num]
      rw [e, if_neg (by simp only [List.headD_cons]; omega)]
      by_cases c : (rest.length : Int) < n
      · rw [if_pos (by simp only [List.length_cons]; omega), if_pos c]
      · rw [if_neg (by simp only [List.length_cons]; omega), if_neg c]; rfl
    · by_cases c3 : n < 65536
      · rw [lenb_3 c2 c3]
        simp only [List.cons_append, List.nil_append, hd, if_neg ht]
        rw [if_neg (by omega), if_neg (by omega), if_neg (by simp only [List.length_cons]; omega)]
        have e : num ((n / 256 :: n % 256 :: rest).take ((130 : Int) - 128).toNat) = n := by simp [num]; omega
        rw [e, if_neg (by simp only [List.headD_cons]; omega)]
        by_cases c : (rest.length : Int) < n
        · rw [if_pos (by simp only [List.length_cons]; omega), if_pos c]
        · rw [if_neg (by simp only [List.length_cons]; omega), if_neg c]; rfl
      · rw [lenb_4 c3]
        simp only [List.cons_append, List.nil_append, hd, if_neg ht]
        rw [if_neg (by omega), if_neg (by omega), if_neg (by simp only [List.length_cons]; omega)]
        have e : num ((n / 65536 :: n / 256 % 256 :: n % 256 :: rest).take ((131 : Int) - 128).toNat) = n := by simp [num]; omega
        rw [e, if_neg (by simp only [List.headD_cons]; omega)]
        by_cases c : (rest.length : Int) < n
        · rw [if_pos (by simp only [List.length_cons]; omega), if_pos c]
        · rw [if_neg (by simp only [List.length_cons]; omega), if_neg c]; rfl

/-- a head that is cut: more is asked for -/
theorem hd_cut {t n : Int} (ht : t % 32 ≠ 31) (h0 : 0 ≤ n) (h1 : n ≤ 1048576) (body : List Int) (hb : (body.length : Int) = n) (cut : Nat) (hc : cut < (t :: (lenb n ++ body)).length) :
    hd ((t :: (lenb n ++ body)).take cut) = (0, 0, 0, 6) := by
  by_cases hl : cut < 1 + (lenb n).length
  · -- within the head
    rw [lenb_len] at hl
    match cut, hl with
    | 0, _ => rfl
    | 1, _ => simp [hd, ht]
    | cut + 2, hl =>
      by_cases c1 : n < 128
      · rw [if_pos c1] at hl; omega
      · rw [if_neg c1] at hl
        unfold lenb
        simp only [if_neg c1]
        by_cases c2 : n < 256
        · rw [if_pos c2] at hl
          obtain rfl : cut = 0 := by omega
          simp [if_pos c2, hd, ht]
        · rw [if_neg c2] at hl
          simp only [if_neg c2]
          by_cases c3 : n < 65536
          · rw [if_pos c3] at hl
            simp only [if_pos c3]
            match cut, hl with
            | 0, _ => simp [hd, ht]
            | 1, _ => simp [hd, ht]
            | cut + 2, hl => omega
          · rw [if_neg c3] at hl
            simp only [if_neg c3]
            match cut, hl with
            | 0, _ => simp [hd, ht]
            | 1, _ => simp [hd, ht]
            | 2, _ => simp [hd, ht]
            | cut + 3, hl => omega
  · have hlt : cut - 1 - (lenb n).length < body.length := by simp only [List.length_cons, List.length_append] at hc; omega
    have e : (t :: (lenb n ++ body)).take cut = t :: (lenb n ++ body.take (cut - 1 - (lenb n).length)) := by
      obtain ⟨c, rfl⟩ : ∃ c, cut = c + 1 := ⟨cut - 1, by omega⟩
      rw [List.take_succ_cons, List.take_append, List.take_of_length_le (by omega)]
      rfl
    rw [e, hd_mk ht h0 h1, if_pos (by rw [List.length_take]; omega)]

/-- whatever is a head says so in one way alone -/
theorem hd_only {l : List Int} (hb : ∀ x ∈ l, 0 ≤ x ∧ x < 256) (h : (hd l).2.2.2 = 0) : l = (hd l).1 :: (lenb (hd l).2.2.1 ++ l.drop (hd l).2.1.toNat) ∧ (hd l).1 % 32 ≠ 31 ∧ (hd l).2.1 = (1 : Int) + ((lenb (hd l).2.2.1).length : Int) := by
  match l, hb, h with
  | [], _, h => simp [hd] at h
  | t :: r, hb, h =>
    have ht := hb t (by simp)
    by_cases h31 : t % 32 = 31
    · simp [hd, h31] at h
    · match r, hb, h with
      | [], _, h => simp [hd, h31] at h
      | b :: q, hb, h =>
        have hbb := hb b (by simp)
        have hqb : ∀ x ∈ q, 0 ≤ x ∧ x < 256 := fun x hx => hb x (by simp [hx])
        simp only [hd] at h ⊢
        rw [if_neg h31] at h ⊢
        by_cases c1 : b < 128
        · rw [if_pos c1] at h ⊢
          by_cases c2 : (q.length : Int) < b
          · rw [if_pos c2] at h; simp at h
          · rw [if_neg c2]
            simp only
            refine ⟨?_, h31, ?_⟩
            · unfold lenb; rw [if_pos c1]; rfl
            · rw [lenb_len, if_pos c1]; rfl
        · rw [if_neg c1] at h ⊢
          by_cases c2 : b = 128 ∨ 131 < b
          · rw [if_pos c2] at h; simp at h
          · rw [if_neg c2] at h ⊢
            by_cases c3 : (q.length : Int) < b - 128
            · rw [if_pos c3] at h; simp at h
            · rw [if_neg c3] at h ⊢
              by_cases c4 : q.headD 0 = 0 ∨ num (q.take (b - 128).toNat) < 128 ∨ 1048576 < num (q.take (b - 128).toNat)
              · rw [if_pos c4] at h; simp at h
              · rw [if_neg c4] at h ⊢
                by_cases c5 : (q.length : Int) - (b - 128) < num (q.take (b - 128).toNat)
                · rw [if_pos c5] at h; simp at h
                · rw [if_neg c5]
                  simp only
                  clear h c5
                  rcases (show b = 129 ∨ b = 130 ∨ b = 131 by omega) with rfl | rfl | rfl
                  · match q, c3, c4, hqb with
                    | [], c3, _, _ => simp at c3
                    | c0 :: q1, _, c4, hqb =>
                      have g0 := hqb c0 (by simp)
                      have e : num ((c0 :: q1).take ((129 : Int) - 128).toNat) = c0 := by simp [num]
                      rw [e] at c4 ⊢
                      simp only [List.headD_cons] at c4
                      refine ⟨?_, h31, ?_⟩
                      · unfold lenb; rw [if_neg (by omega), if_pos (by omega)]; rfl
                      · rw [lenb_len, if_neg (by omega), if_pos (by omega)]; rfl
                  · match q, c3, c4, hqb with
                    | [], c3, _, _ => simp at c3
                    | [c0], c3, _, _ => simp at c3
                    | c0 :: c1 :: q1, _, c4, hqb =>
                      have g0 := hqb c0 (by simp)
                      have g1 := hqb c1 (by simp)
                      have e : num ((c0 :: c1 :: q1).take ((130 : Int) - 128).toNat) = c0 * 256 + c1 := by simp [num]
                      rw [e] at c4 ⊢
                      simp only [List.headD_cons] at c4
                      refine ⟨?_, h31, ?_⟩
                      · unfold lenb; rw [if_neg (by omega), if_neg (by omega), if_pos (by omega)]
                        rw [show (c0 * 256 + c1) / 256 = c0 by omega, show (c0 * 256 + c1) % 256 = c1 by omega]; rfl
                      · rw [lenb_len, if_neg (by omega), if_neg (by omega), if_pos (by omega)]; rfl
                  · match q, c3, c4, hqb with
                    | [], c3, _, _ => simp at c3
                    | [c0], c3, _, _ => simp at c3
                    | [c0, c1], c3, _, _ => simp at c3
                    | c0 :: c1 :: c2 :: q1, _, c4, hqb =>
                      have g0 := hqb c0 (by simp)
                      have g1 := hqb c1 (by simp)
                      have g2 := hqb c2 (by simp)
                      have e : num ((c0 :: c1 :: c2 :: q1).take ((131 : Int) - 128).toNat) = (c0 * 256 + c1) * 256 + c2 := by simp [num]
                      rw [e] at c4 ⊢
                      simp only [List.headD_cons] at c4
                      refine ⟨?_, h31, ?_⟩
                      · unfold lenb; rw [if_neg (by omega), if_neg (by omega), if_neg (by omega)]
                        rw [show ((c0 * 256 + c1) * 256 + c2) / 65536 = c0 by omega, show ((c0 * 256 + c1) * 256 + c2) / 256 % 256 = c1 by omega, show ((c0 * 256 + c1) * 256 + c2) % 256 = c2 by omega]; rfl
                      · rw [lenb_len, if_neg (by omega), if_neg (by omega), if_neg (by omega)]; rfl

mutual
/-- a tlv's bytes -/
def enc : Tlv → List Int
  | ⟨t, s, l⟩ => (t % 256) :: (lenb ((bytesOf s ++ encs l).length : Int) ++ (bytesOf s ++ encs l))
def encs : List Tlv → List Int
  | [] => []
  | x :: r => enc x ++ encs r
end
def cont (x : Tlv) : List Int := bytesOf x.f1 ++ encs x.f2
theorem enc_eq (x : Tlv) : enc x = (x.f0 % 256) :: (lenb ((cont x).length : Int) ++ cont x) := by cases x; rfl
theorem encs_append : ∀ a b : List Tlv, encs (a ++ b) = encs a ++ encs b
  | [], b => by simp [encs]
  | x :: r, b => by simp only [List.cons_append, encs, encs_append r b, List.append_assoc]

/-- how long it is in all -/
def whole (n : Int) : Int := 1 + ((lenb n).length : Int) + n
def lens (f : Tlv → Int) : Int → List Tlv → Int
  | n, [] => if 1048576 < n then -1 else n
  | n, x :: r => if f x < 0 then -1 else if 1048576 < n + whole (f x) then -1 else lens f (n + whole (f x)) r
def lenN (t : Tlv) (sub : Option (Tlv → Int)) : Int :=
  if t.f0 < 0 ∨ 255 < t.f0 ∨ t.f0 % 32 = 31 then -1
  else if t.f0 / 32 % 2 = 0 then (if t.f2 = [] then (if 1048576 < (t.f1.length : Int) then -1 else t.f1.length) else -1)
  else if 0 < t.f1.length then -1 else match sub with
    | none => -1
    | some f => lens f 0 t.f2
/-- how long a tlv's content is, so deep at most; below 0: it may not be -/
def lenS : Nat → Tlv → Int
  | 0, t => lenN t none
  | d + 1, t => lenN t (some (lenS d))

theorem whole_bd {n : Int} (h0 : 0 ≤ n) : 0 ≤ whole n ∧ whole n ≤ n + 5 := by
  unfold whole
  rw [lenb_len]
  split
  · omega
  · split
    · omega
    · split <;> omega

theorem lens_bd (f : Tlv → Int) : ∀ (l : List Tlv) (n : Int), lens f n l ≤ 1048576
  | [], n => by simp only [lens]; split <;> omega
  | x :: r, n => by
    simp only [lens]
    split
    · omega
    · split
      · omega
      · exact lens_bd f r _
theorem lenN_bd (t : Tlv) (sub : Option (Tlv → Int)) : lenN t sub ≤ 1048576 := by
  unfold lenN
  split
  · omega
  · split
    · split
      · split <;> omega
      · omega
    · split
      · omega
      · cases sub with
        | none => simp
        | some f => exact lens_bd f _ _
theorem lenS_node (d : Nat) (t : Tlv) : ∃ sub, lenS d t = lenN t sub := by
  cases d with
  | zero => exact ⟨none, rfl⟩
  | succ d => exact ⟨some (lenS d), rfl⟩
theorem lenS_bd (d : Nat) (t : Tlv) : lenS d t ≤ 1048576 := by
  obtain ⟨sub, e⟩ := lenS_node d t
  rw [e]
  exact lenN_bd t sub


theorem enc_len (x : Tlv) : ((enc x).length : Int) = whole ((cont x).length : Int) := by
  rw [enc_eq]
  simp only [List.length_cons, List.length_append, whole]
  omega
theorem lens_sum (f : Tlv → Int) : ∀ (l : List Tlv) (n : Int), 0 ≤ lens f n l → (∀ x ∈ l, 0 ≤ f x → f x = (cont x).length) → lens f n l = n + (encs l).length ∧ (∀ x ∈ l, 0 ≤ f x) ∧ n + (encs l).length ≤ 1048576
  | [], n, h, _ => by
    simp only [lens] at h ⊢
    split at h
    · omega
    · rename_i c
      rw [if_neg c]
      simp [encs]
      omega
  | x :: r, n, h, hf => by
    simp only [lens] at h ⊢
    split at h
    · omega
    · rename_i c
      split at h
      · omega
      · rename_i c2
        obtain ⟨h1, h2, h3⟩ := lens_sum f r _ h (fun y hy => hf y (List.mem_cons_of_mem _ hy))
        have h4 := hf x (by simp) (by omega)
        rw [if_neg c, if_neg c2]
        have h5 := enc_len x
        rw [← h4] at h5
        refine ⟨?_, ?_, ?_⟩
        · rw [h1]; simp only [encs, List.length_append]; omega
        · intro y hy
          rcases List.mem_cons.1 hy with rfl | hy
          · omega
          · exact h2 y hy
        · simp only [encs, List.length_append]; omega
/-- what may be: its content's length, its tag, its parts -/
structure Fit (sub : Option (Tlv → Int)) (t : Tlv) : Prop where
  len : ((cont t).length : Int) ≤ 1048576
  t0 : 0 ≤ t.f0
  t1 : t.f0 < 256
  t31 : t.f0 % 32 ≠ 31
  leaf : t.f0 / 32 % 2 = 0 → t.f2 = []
  made : t.f0 / 32 % 2 ≠ 0 → t.f1 = [] ∧ ∃ f, sub = some f ∧ ∀ x ∈ t.f2, 0 ≤ f x
theorem size0 {s : List UInt8} (h : ¬ 0 < s.length) : s = [] := by
  refine by_inj ?_
  have : (bytesOf s).length = 0 := by rw [by_len]; omega
  rw [List.eq_nil_of_length_eq_zero this]
  rfl
theorem lenN_fit {t : Tlv} {sub : Option (Tlv → Int)} (hs : ∀ f, sub = some f → ∀ x ∈ t.f2, 0 ≤ f x → f x = (cont x).length) (h : 0 ≤ lenN t sub) : lenN t sub = (cont t).length ∧ Fit sub t := by
  unfold lenN at h ⊢
  by_cases c : t.f0 < 0 ∨ 255 < t.f0 ∨ t.f0 % 32 = 31
  · rw [if_pos c] at h; omega
  · rw [if_neg c] at h ⊢
    by_cases c2 : t.f0 / 32 % 2 = 0
    · rw [if_pos c2] at h ⊢
      by_cases c3 : t.f2 = []
      · rw [if_pos c3] at h ⊢
        by_cases c4 : 1048576 < (t.f1.length : Int)
        · rw [if_pos c4] at h; omega
        · rw [if_neg c4]
          have e : ((cont t).length : Int) = t.f1.length := by unfold cont; rw [c3]; simp [encs, by_len]
          exact ⟨e.symm, ⟨by omega, by omega, by omega, by omega, fun _ => c3, fun h2 => absurd c2 h2⟩⟩
      · rw [if_neg c3] at h; omega
    · rw [if_neg c2] at h ⊢
      by_cases c3 : 0 < t.f1.length
      · rw [if_pos c3] at h; omega
      · rw [if_neg c3] at h ⊢
        have e1 := size0 c3
        cases sub with
        | none => simp at h
        | some f =>
          simp only at h ⊢
          obtain ⟨h1, h2, h3⟩ := lens_sum f t.f2 0 h (hs f rfl)
          have e : ((cont t).length : Int) = (encs t.f2).length := by unfold cont; rw [e1]; simp [bytesOf]
          refine ⟨by rw [h1, e]; omega, ⟨by omega, by omega, by omega, by omega, fun h4 => absurd h4 c2, fun _ => ⟨e1, f, rfl, h2⟩⟩⟩
theorem lenS_len : ∀ (d : Nat) (t : Tlv), 0 ≤ lenS d t → lenS d t = (cont t).length := by
  intro d
  induction d with
  | zero => intro t h; exact (lenN_fit (fun f hf => by cases hf) h).1
  | succ d ih => intro t h; exact (lenN_fit (sub := some (lenS d)) (fun f hf x _ hx => by cases hf; exact ih x hx) h).1
theorem lenS_fit0 {t : Tlv} (h : 0 ≤ lenS 0 t) : Fit none t := (lenN_fit (fun f hf => by cases hf) h).2
theorem lenS_fit {d : Nat} {t : Tlv} (h : 0 ≤ lenS (d + 1) t) : Fit (some (lenS d)) t := (lenN_fit (sub := some (lenS d)) (fun f hf x _ hx => by cases hf; exact lenS_len d x hx) h).2
theorem fit_any {d : Nat} {t : Tlv} (h : 0 ≤ lenS d t) : ∃ sub, Fit sub t := by
  cases d with
  | zero => exact ⟨_, lenS_fit0 h⟩
  | succ d => exact ⟨_, lenS_fit h⟩
theorem enc_bd {d : Nat} : ∀ {t : Tlv}, 0 ≤ lenS d t → ∀ x ∈ enc t, 0 ≤ x ∧ x < 256 := by
  induction d with
  | zero =>
    intro t h x hx
    have hf := lenS_fit0 h
    rw [enc_eq] at hx
    rcases List.mem_cons.1 hx with rfl | hx
    · omega
    · rcases List.mem_append.1 hx with hx | hx
      · exact lenb_bd (by omega) hf.len x hx
      · unfold cont at hx
        rw [List.mem_append] at hx
        rcases hx with hx | hx
        · exact by_bd _ x hx
        · by_cases c : t.f0 / 32 % 2 = 0
          · rw [hf.leaf c] at hx; simp [encs] at hx
          · obtain ⟨_, f, h1, _⟩ := hf.made c; cases h1
  | succ d ih =>
    intro t h x hx
    have hf := lenS_fit h
    rw [enc_eq] at hx
    rcases List.mem_cons.1 hx with rfl | hx
    · omega
    · rcases List.mem_append.1 hx with hx | hx
      · exact lenb_bd (by omega) hf.len x hx
      · unfold cont at hx
        rw [List.mem_append] at hx
        rcases hx with hx | hx
        · exact by_bd _ x hx
        · by_cases c : t.f0 / 32 % 2 = 0
          · rw [hf.leaf c] at hx; simp [encs] at hx
          · obtain ⟨_, f, h1, h2⟩ := hf.made c
            cases h1
            have : ∀ l : List Tlv, (∀ y ∈ l, 0 ≤ lenS d y) → ∀ x ∈ encs l, 0 ≤ x ∧ x < 256 := by
              intro l
              induction l with
              | nil => intro _ x hx; simp [encs] at hx
              | cons y r ihl =>
                intro hy x hx
                simp only [encs, List.mem_append] at hx
                rcases hx with hx | hx
                · exact ih (hy y (by simp)) x hx
                · exact ihl (fun z hz => hy z (List.mem_cons_of_mem _ hz)) x hx
            exact this t.f2 h2 x hx


mutual
theorem wt_enc : ∀ x : Tlv, wt x ≤ (enc x).length
  | ⟨t, s, l⟩ => by
    have := wts_encs l
    simp only [wt, enc, List.length_cons, List.length_append]
    omega
theorem wts_encs : ∀ l : List Tlv, wts l ≤ (encs l).length
  | [] => by simp [wts]
  | x :: r => by
    have := wt_enc x
    have := wts_encs r
    simp only [wts, encs, List.length_append]
    omega
end
theorem enc_ne (x : Tlv) : enc x ≠ [] := by rw [enc_eq]; simp
theorem enc_pos (x : Tlv) : 0 < (enc x).length := List.length_pos_iff.2 (enc_ne x)
theorem wt_fit {sub : Option (Tlv → Int)} {t : Tlv} (hf : Fit sub t) : wt t ≤ 1048581 := by
  have h1 := wt_enc t
  have h2 := enc_len t
  have h3 := whole_bd (n := (cont t).length) (by omega)
  have h4 := hf.len
  omega

theorem node_enc {sub : Option (Tlv → Int)} {ps : Option (List Int → R)} {t : Tlv} (hf : Fit sub t)
    (hp : t.f0 / 32 % 2 ≠ 0 → ∃ p, ps = some p ∧ items p ((encs t.f2).length + 1) (encs t.f2) = some t.f2) (rest : List Int) :
    node (enc t ++ rest) ps = (0, t, ((enc t).length : Int)) := by
  have e : enc t ++ rest = t.f0 :: (lenb ((cont t).length : Int) ++ (cont t ++ rest)) := by
    rw [enc_eq, Int.emod_eq_of_lt hf.t0 hf.t1]; simp
  have h := hd_mk (t := t.f0) (n := (cont t).length) hf.t31 (by omega) hf.len (cont t ++ rest)
  rw [if_neg (by rw [List.length_append]; omega), ← e] at h
  have hbody : body (enc t ++ rest) = cont t := by
    unfold body
    rw [h]
    simp only
    rw [show ((1 : Int) + ((lenb ((cont t).length : Int)).length : Int)).toNat = (lenb ((cont t).length : Int)).length + 1 by omega, e, List.drop_succ_cons, List.drop_left, show ((cont t).length : Int).toNat = (cont t).length from rfl, List.take_left]
  have hlen : (1 : Int) + ((lenb ((cont t).length : Int)).length : Int) + ((cont t).length : Int) = ((enc t).length : Int) := by rw [enc_len]; rfl
  unfold node
  rw [hbody, h]
  simp only [if_true]
  rw [hlen]
  by_cases c : t.f0 / 32 % 2 = 0
  · rw [if_pos c]
    have hl := hf.leaf c
    have : cont t = bytesOf t.f1 := by unfold cont; rw [hl]; simp [encs]
    rw [this, strOf_by]
    rw [show (⟨t.f0, t.f1, []⟩ : Tlv) = t by rw [← hl]; exact eta t]
  · rw [if_neg c]
    obtain ⟨p, rfl, hi⟩ := hp c
    obtain ⟨hm, _⟩ := hf.made c
    have : cont t = encs t.f2 := by unfold cont; rw [hm]; simp [bytesOf]
    rw [this]
    simp only
    rw [hi]
    simp only
    rw [show (⟨t.f0, [], t.f2⟩ : Tlv) = t by rw [← hm]; exact eta t]
theorem items_encs {p : List Int → R} : ∀ (l : List Tlv) (k : Nat), (∀ x ∈ l, ∀ rest, p (enc x ++ rest) = (0, x, ((enc x).length : Int))) → (encs l).length < k → items p k (encs l) = some l
  | [], k, _, hk => by
    obtain ⟨k, rfl⟩ : ∃ q, k = q + 1 := ⟨k - 1, by omega⟩
    exact items_nil p k
  | x :: r, k, h, hk => by
    obtain ⟨k, rfl⟩ : ∃ q, k = q + 1 := ⟨k - 1, by omega⟩
    have hpos := enc_pos x
    simp only [encs] at hk ⊢
    rw [List.length_append] at hk
    rw [items_cons p k (by simp [enc_ne x]), h x (by simp)]
    simp only [if_true]
    rw [show ((enc x).length : Int).toNat = (enc x).length from rfl, List.drop_left, items_encs r k (fun y hy => h y (List.mem_cons_of_mem _ hy)) (by omega)]
    rfl
theorem parse_enc : ∀ (d : Nat) (t : Tlv), 0 ≤ lenS d t → ∀ rest, parse d (enc t ++ rest) = (0, t, ((enc t).length : Int)) := by
  intro d
  induction d with
  | zero =>
    intro t h rest
    have hf := lenS_fit0 h
    exact node_enc hf (fun c => by obtain ⟨_, f, h1, _⟩ := hf.made c; cases h1) rest
  | succ d ih =>
    intro t h rest
    have hf := lenS_fit h
    refine node_enc hf (fun c => ⟨_, rfl, ?_⟩) rest
    obtain ⟨_, f, h1, h2⟩ := hf.made c
    cases h1
    exact items_encs t.f2 _ (fun x hx => ih x (h2 x hx)) (by omega)
theorem parse_cut {d : Nat} {t : Tlv} (h : 0 ≤ lenS d t) (d2 : Nat) (cut : Nat) (hc : cut < (enc t).length) : parse d2 ((enc t).take cut) = (6, no, 0) := by
  obtain ⟨sub, hf⟩ := fit_any h
  obtain ⟨ps, e⟩ := parse_node d2 ((enc t).take cut)
  rw [e]
  have e2 : enc t = t.f0 :: (lenb ((cont t).length : Int) ++ cont t) := by rw [enc_eq, Int.emod_eq_of_lt hf.t0 hf.t1]
  have := hd_cut (t := t.f0) (n := (cont t).length) hf.t31 (by omega) hf.len (cont t) rfl cut (by rw [← e2]; exact hc)
  rw [← e2] at this
  unfold node
  rw [this]
  rfl
def Canon (p : List Int → R) : Prop := ∀ l, (∀ x ∈ l, 0 ≤ x ∧ x < 256) → (p l).1 = 0 → enc (p l).2.1 = l.take (p l).2.2.toNat
theorem items_canon {p : List Int → R} (hc : Canon p) (hg : Good p) : ∀ (k : Nat) (l : List Int) (ts : List Tlv), (∀ x ∈ l, 0 ≤ x ∧ x < 256) → items p k l = some ts → encs ts = l := by
  intro k
  induction k with
  | zero => intro l ts _ h; simp [items] at h
  | succ k ih =>
    intro l ts hb h
    by_cases hn : l = []
    · subst hn; rw [items_nil] at h; cases h; rfl
    · rw [items_cons p k hn] at h
      by_cases c : (p l).1 = 0
      · rw [if_pos c] at h
        cases hi : items p k (l.drop (p l).2.2.toNat) with
        | none => rw [hi] at h; cases h
        | some us =>
          rw [hi] at h
          cases h
          have := ih _ us (bd_drop hb _) hi
          simp only [encs]
          rw [this, hc l hb c, List.take_append_drop]
      · rw [if_neg c] at h; cases h
theorem node_canon (ps : Option (List Int → R)) (hs : ∀ p, ps = some p → Canon p ∧ Good p) : Canon (fun l => node l ps) := by
  intro l hb h
  simp only at h ⊢
  obtain ⟨h0, hm⟩ := node_ok hb h
  obtain ⟨hl, h31, hh⟩ := hd_only hb h0
  obtain ⟨t, q, hl2, e1, t0, t1, g2, g3, g4, g5⟩ := hd_ok hb h0
  rw [hm]
  have hbl : ((body l).length : Int) = (hd l).2.2.1 := by unfold body; rw [List.length_take, List.length_drop]; omega
  have htake : l.take ((hd l).2.1 + (hd l).2.2.1).toNat = (hd l).1 :: (lenb (hd l).2.2.1 ++ body l) := by
    have a : l.take ((hd l).2.1 + (hd l).2.2.1).toNat = l.take (hd l).2.1.toNat ++ body l := by
      unfold body
      rw [show ((hd l).2.1 + (hd l).2.2.1).toNat = (hd l).2.1.toNat + (hd l).2.2.1.toNat by omega, List.take_add]
    have b : l.take (hd l).2.1.toNat = (hd l).1 :: lenb (hd l).2.2.1 := by
      have e2 : (hd l).2.1.toNat = ((hd l).1 :: lenb (hd l).2.2.1).length := by rw [List.length_cons]; omega
      have hl3 : l = ((hd l).1 :: lenb (hd l).2.2.1) ++ l.drop (hd l).2.1.toNat := hl
      rw [e2] at hl3 ⊢
      generalize (hd l).1 :: lenb (hd l).2.2.1 = P at *
      rw [hl3, List.take_left]
    rw [a, b]
    simp
  rw [htake]
  have hbb : ∀ x ∈ body l, 0 ≤ x ∧ x < 256 := bd_take (bd_drop hb _) _
  unfold node at h ⊢
  rw [if_pos h0] at h ⊢
  by_cases c : (hd l).1 / 32 % 2 = 0
  · rw [if_pos c]
    simp only
    rw [enc_eq]
    unfold cont
    simp only [encs, List.append_nil]
    rw [by_strOf hbb, hbl, e1, Int.emod_eq_of_lt t0 t1]
  · rw [if_neg c] at h ⊢
    cases ps with
    | none => simp at h
    | some p =>
      simp only at h ⊢
      cases hi : items p ((body l).length + 1) (body l) with
      | none => rw [hi] at h; simp at h
      | some ts =>
        simp only
        obtain ⟨hc1, hc2⟩ := hs p rfl
        have := items_canon hc1 hc2 _ _ _ hbb hi
        rw [enc_eq]
        unfold cont
        simp only
        rw [this, show bytesOf ([] : List UInt8) = [] from rfl, List.nil_append, hbl, e1, Int.emod_eq_of_lt t0 t1]
theorem parse_canon : ∀ d : Nat, Canon (parse d) := by
  intro d
  induction d with
  | zero => exact node_canon none (fun p h => by cases h)
  | succ d ih => exact node_canon (some (parse d)) (fun p h => by cases h; exact ⟨ih, parse_good d⟩)

end Go.Proofs.YtcpidokhkcmdfaaGreat.B
