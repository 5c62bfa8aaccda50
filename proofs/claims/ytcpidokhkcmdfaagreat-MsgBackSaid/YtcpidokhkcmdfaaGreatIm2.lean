/- The evaluator over plain data and that it is right: the texts IdB to IdM. Conditions: those of each theorem. -/
import Derived.Test.YtcpidokhkcmdfaaGreatIm1
import Derived.Below
import Derived.Orders
import Derived.RowKit3
import Derived.ChangeKeysEq
import Derived.DataElems
import Derived.Laws.StructEq
import Derived.Laws.BytesString
/-! How the evaluator's data stand to the model's memory; how memory goes on. Conditions: those of each theorem. -/
namespace Go.Proofs.YtcpidokhkcmdfaaGreat.I
open Go
set_option linter.unusedVariables false
set_option linter.unusedSimpArgs false

/-! ### Lists side by side -/
inductive F2 {α β : Type} (R : α → β → Prop) : List α → List β → Prop
  | nil : F2 R [] []
  | cons {a : α} {b : β} {as : List α} {bs : List β} : R a b → F2 R as bs → F2 R (a :: as) (b :: bs)
theorem F2.length {α β : Type} {R : α → β → Prop} {as : List α} {bs : List β} (h : F2 R as bs) : as.length = bs.length := by
  induction h with
  | nil => rfl
  | cons _ _ ih => simp [ih]
theorem F2.mono {α β : Type} {R R' : α → β → Prop} {as : List α} {bs : List β} (h : F2 R as bs) (hr : ∀ a b, R a b → R' a b) : F2 R' as bs := by
  induction h with
  | nil => exact .nil
  | cons h _ ih => exact .cons (hr _ _ h) ih
theorem F2.mono' {α β : Type} {R R' : α → β → Prop} {as : List α} {bs : List β} (h : F2 R as bs) (hr : ∀ a b, a ∈ as → R a b → R' a b) : F2 R' as bs := by
  induction h with
  | nil => exact .nil
  | cons h _ ih => exact .cons (hr _ _ (by simp) h) (ih fun a b ha => hr a b (by simp [ha]))
theorem F2.get {α β : Type} {R : α → β → Prop} {as : List α} {bs : List β} (h : F2 R as bs) {i : Nat} {a : α} (hi : as[i]? = some a) : ∃ b, bs[i]? = some b ∧ R a b := by
  induction h generalizing i with
  | nil => simp at hi
  | cons h _ ih =>
    cases i with
    | zero => simp at hi; subst hi; exact ⟨_, by simp, h⟩
    | succ i => simp at hi; obtain ⟨b, hb, hr⟩ := ih hi; exact ⟨b, by simpa using hb, hr⟩
theorem F2.append {α β : Type} {R : α → β → Prop} {as as' : List α} {bs bs' : List β} (h : F2 R as bs) (h' : F2 R as' bs') : F2 R (as ++ as') (bs ++ bs') := by
  induction h with
  | nil => exact h'
  | cons h _ ih => exact .cons h ih
theorem F2.take {α β : Type} {R : α → β → Prop} {as : List α} {bs : List β} (h : F2 R as bs) (n : Nat) : F2 R (as.take n) (bs.take n) := by
  induction h generalizing n with
  | nil => simp; exact .nil
  | cons h _ ih =>
    cases n with
    | zero => exact .nil
    | succ n => exact .cons h (ih n)
theorem F2.drop {α β : Type} {R : α → β → Prop} {as : List α} {bs : List β} (h : F2 R as bs) (n : Nat) : F2 R (as.drop n) (bs.drop n) := by
  induction h generalizing n with
  | nil => simp; exact .nil
  | cons h h' ih =>
    cases n with
    | zero => exact .cons h h'
    | succ n => exact ih n
theorem F2.of {α β : Type} {R : α → β → Prop} {as : List α} {bs : List β} (hl : as.length = bs.length) (h : ∀ (i : Nat) a b, as[i]? = some a → bs[i]? = some b → R a b) : F2 R as bs := by
  induction as generalizing bs with
  | nil => cases bs with
    | nil => exact .nil
    | cons b bs => simp at hl
  | cons a as ih => cases bs with
    | nil => simp at hl
    | cons b bs =>
      exact .cons (h 0 a b (by simp) (by simp)) (ih (by simpa using hl) fun i a b ha hb => h (i + 1) a b (by simpa using ha) (by simpa using hb))
theorem F2.map {α β γ δ : Type} {R : α → β → Prop} {R' : γ → δ → Prop} {f : α → γ} {g : β → δ} {as : List α} {bs : List β} (h : F2 R as bs) (hr : ∀ a b, R a b → R' (f a) (g b)) : F2 R' (as.map f) (bs.map g) := by
  induction h with
  | nil => exact .nil
  | cons h _ ih => exact .cons (hr _ _ h) ih
theorem F2.splice {α β : Type} {R : α → β → Prop} {as : List α} {bs : List β} (h : F2 R as bs) {xs : List α} {ys : List β} (h' : F2 R xs ys) (n : Nat) : F2 R (splice as n xs) (splice bs n ys) := by
  induction h generalizing n xs ys with
  | nil => cases h' <;> simp [I.splice] <;> exact .nil
  | cons h h2 ih =>
    cases h' with
    | nil => simp [I.splice]; exact .cons h h2
    | cons g g2 =>
      cases n with
      | zero => simp only [I.splice]; exact .cons g (ih g2 0)
      | succ n => simp only [I.splice]; exact .cons h (ih (.cons g g2) n)

/-! ### Association lists -/
theorem beq_ne {m n : Nat} (h : m ≠ n) : Nat.beq m n = false := by
  cases hb : Nat.beq m n with
  | false => rfl
  | true => exact absurd (Nat.eq_of_beq_eq_true hb) h
theorem find_nil {α : Type} (n : Nat) : find ([] : List (Nat × α)) n = none := rfl
theorem find_cons {α : Type} (m : Nat) (a : α) (r : List (Nat × α)) (n : Nat) : find ((m, a) :: r) n = if m = n then some a else find r n := by
  simp only [find]
  by_cases h : m = n
  · simp [h]
  · have : Nat.beq m n = false := beq_ne h
    simp [h, this]
theorem find_same {α : Type} (m : Nat) (a : α) (r : List (Nat × α)) : find ((m, a) :: r) m = some a := by simp [find_cons]
theorem find_other {α : Type} {m n : Nat} (a : α) (r : List (Nat × α)) (h : m ≠ n) : find ((m, a) :: r) n = find r n := by simp [find_cons, h]
theorem find_append {α : Type} (l r : List (Nat × α)) (n : Nat) : find (l ++ r) n = (find l n).or (find r n) := by
  induction l with
  | nil => simp [find_nil]
  | cons x l ih =>
    obtain ⟨m, a⟩ := x
    simp only [List.cons_append, find_cons, ih]
    split <;> simp
theorem memb_iff (l : List Nat) (n : Nat) : memb l n = true ↔ n ∈ l := by
  induction l with
  | nil => simp [memb]
  | cons m l ih =>
    simp only [memb]
    by_cases h : m = n
    · simp [h]
    · have : Nat.beq m n = false := beq_ne h
      simp [this, ih, Ne.symm h]
theorem beq_iff {m n : Nat} : Nat.beq m n = true ↔ m = n := ⟨Nat.eq_of_beq_eq_true, fun h => by subst h; exact Nat.beq_refl m⟩

/-! ### Data in memory -/
/-- A world goes on: what is stable stays as it is. -/
def Le (w : World) (S : Addr → Prop) (w' : World) (S' : Addr → Prop) : Prop := ∀ a, S a → S' a ∧ w'.cell? a = w.cell? a
theorem Le.refl (w : World) (S : Addr → Prop) : Le w S w S := fun a h => ⟨h, rfl⟩
theorem Le.trans {w w' w'' : World} {S S' S'' : Addr → Prop} (h : Le w S w' S') (h' : Le w' S' w'' S'') : Le w S w'' S'' :=
  fun a ha => ⟨(h' a (h a ha).1).1, ((h' a (h a ha).1).2).trans (h a ha).2⟩
inductive RelD (w : World) (S : Addr → Prop) : D → Value → Prop
  | bool (b : Bool) : RelD w S (.bool b) (.bool b)
  | int (k : IntKind) (n : Int) : RelD w S (.int k n) (.int k n)
  | str (s : List UInt8) : RelD w S (.str s) (.string ⟨s.toArray⟩)
  | sl (x : D) (xs : List (List D)) (a : Option Addr) (cap sz : Nat) (cv : Nat → Nat → Value)
      (hx : x = .list xs ∨ (x = .lit xs ∧ cap = xs.length)) (hc : xs.length ≤ cap) (hs : ∀ e ∈ xs, e.length = sz)
      (ha : xs = [] ∨ ∃ b, a = some b ∧ ∀ i j, i < xs.length → j < sz → S (b.add (i * sz + j)) ∧ w.cell? (b.add (i * sz + j)) = some (cv i j))
      (h : ∀ (i j : Nat) e d, xs[i]? = some e → e[j]? = some d → RelD w S d (cv i j)) : RelD w S x (.slice a xs.length cap)
theorem RelD.mono {w w' : World} {S S' : Addr → Prop} (hle : Le w S w' S') {d : D} {v : Value} (h : RelD w S d v) : RelD w' S' d v := by
  induction h with
  | bool b => exact .bool b
  | int k n => exact .int k n
  | str s => exact .str s
  | sl x xs a cap sz cv hx hc hs ha h ih =>
    refine .sl x xs a cap sz cv hx hc hs ?_ ih
    rcases ha with ha | ⟨b, hb, ha⟩
    · exact .inl ha
    · refine .inr ⟨b, hb, fun i j hi hj => ?_⟩
      obtain ⟨h1, h2⟩ := ha i j hi hj
      exact ⟨(hle _ h1).1, (hle _ h1).2.trans h2⟩
theorem RelD.inv_bool {w : World} {S : Addr → Prop} {b : Bool} {v : Value} (h : RelD w S (.bool b) v) : v = .bool b := by
  cases h with
  | bool => rfl
  | sl _ _ _ _ _ _ hx => rcases hx with hx | ⟨hx, _⟩ <;> cases hx
theorem RelD.inv_int {w : World} {S : Addr → Prop} {k : IntKind} {n : Int} {v : Value} (h : RelD w S (.int k n) v) : v = .int k n := by
  cases h with
  | int => rfl
  | sl _ _ _ _ _ _ hx => rcases hx with hx | ⟨hx, _⟩ <;> cases hx
theorem RelD.inv_str {w : World} {S : Addr → Prop} {s : List UInt8} {v : Value} (h : RelD w S (.str s) v) : v = .string ⟨s.toArray⟩ := by
  cases h with
  | str => rfl
  | sl _ _ _ _ _ _ hx => rcases hx with hx | ⟨hx, _⟩ <;> cases hx
/-- A slice's elements lie so. -/
structure Lies (w : World) (S : Addr → Prop) (xs : List (List D)) (a : Option Addr) (cap sz : Nat) (cv : Nat → Nat → Value) : Prop where
  hc : xs.length ≤ cap
  hs : ∀ e ∈ xs, e.length = sz
  ha : xs = [] ∨ ∃ b, a = some b ∧ ∀ i j, i < xs.length → j < sz → S (b.add (i * sz + j)) ∧ w.cell? (b.add (i * sz + j)) = some (cv i j)
  h : ∀ (i j : Nat) e d, xs[i]? = some e → e[j]? = some d → RelD w S d (cv i j)
theorem RelD.inv_list {w : World} {S : Addr → Prop} {xs : List (List D)} {v : Value} (h : RelD w S (.list xs) v) : ∃ a cap sz cv, v = .slice a xs.length cap ∧ Lies w S xs a cap sz cv := by
  cases h with
  | sl _ ys a cap sz cv hx hc hs ha h =>
    rcases hx with hx | ⟨hx, _⟩
    · injection hx with hx; subst hx; exact ⟨a, cap, sz, cv, rfl, hc, hs, ha, h⟩
    · cases hx
theorem RelD.inv_lit {w : World} {S : Addr → Prop} {xs : List (List D)} {v : Value} (h : RelD w S (.lit xs) v) : ∃ a sz cv, v = .slice a xs.length xs.length ∧ Lies w S xs a xs.length sz cv := by
  cases h with
  | sl _ ys a cap sz cv hx hc hs ha h =>
    rcases hx with hx | ⟨hx, hy⟩
    · cases hx
    · injection hx with hx; subst hx; subst hy; exact ⟨a, sz, cv, rfl, hc, hs, ha, h⟩
theorem RelD.weak {w : World} {S : Addr → Prop} {xs : List (List D)} {v : Value} (h : RelD w S (.lit xs) v) : RelD w S (.list xs) v := by
  obtain ⟨a, sz, cv, rfl, l⟩ := h.inv_lit
  exact .sl _ xs a _ sz cv (.inl rfl) l.hc l.hs l.ha l.h
theorem RelD.one {w : World} {S : Addr → Prop} {d : D} {v : Value} (h : RelD w S d v) : v.oneCell' = true := by cases h <;> rfl
theorem RelD.cells {w : World} {S : Addr → Prop} {d : D} {v : Value} (h : RelD w S d v) : v.cells = #[v] := by cases h <;> rfl

/-! ### Cells, values -/
abbrev Place := Nat → Option Addr × Nat
inductive RelC (w : World) (S : Addr → Prop) (H : List (Nat × O)) (φ : Place) : C → Value → Prop
  | d (x : D) (v : Value) : RelD w S x v → RelC w S H φ (.d x) v
  | nils : RelC w S H φ .nils (.slice none 0 0)
  | row (n ver sz : Nat) (xs : List (List D)) (ver' : Nat) (ex : Bool) (a : Option Addr) (len cap : Nat) (hf : find H n = some (.row sz xs ver' ex)) (hv : ver ≤ ver')
      (h : ver = ver' → Value.slice a len cap = .slice (φ n).1 xs.length (φ n).2) : RelC w S H φ (.row n ver) (.slice a len cap)
  | ptr (n off : Nat) (cs : List C) (b : Addr) (hf : find H n = some (.box cs)) (hb : (φ n).1 = some b) : RelC w S H φ (.ptr n off) (.pointer (some (b.add off)))
  | eptr (n ver i off sz : Nat) (xs : List (List D)) (ver' : Nat) (ex : Bool) (a : Addr) (hf : find H n = some (.row sz xs ver' ex)) (hv : ver ≤ ver')
      (h : ver = ver' → i < xs.length ∧ ∃ b, (φ n).1 = some b ∧ a = b.add (i * sz + off)) : RelC w S H φ (.eptr n ver i off) (.pointer (some a))
  | dptr (cs : List D) (off : Nat) (b : Addr) (cv : Nat → Value) (h : ∀ (j : Nat) d, cs[j]? = some d → S (b.add j) ∧ w.cell? (b.add j) = some (cv j) ∧ RelD w S d (cv j)) :
      RelC w S H φ (.dptr cs off) (.pointer (some (b.add off)))
  | nilp : RelC w S H φ .nilp (.pointer none)
  | fn (f : Nat) (caps : List C) (vs : List Value) (hl : caps.length = vs.length) (h : ∀ (i : Nat) c v, caps[i]? = some c → vs[i]? = some v → RelC w S H φ c v) : RelC w S H φ (.fn f caps) (.func (.func f) #[] vs.toArray)
  | nilf : RelC w S H φ .nilf .nilFunc
/-- Objects go on: places stay unless a row has grown, which its number tells. -/
def HLe (H : List (Nat × O)) (φ : Place) (H' : List (Nat × O)) (φ' : Place) : Prop := ∀ n o, find H n = some o → match o with
  | .box _ => (∃ cs', find H' n = some (.box cs')) ∧ (φ' n).1 = (φ n).1
  | .row sz xs ver ex => ∃ xs' ver' ex', find H' n = some (.row sz xs' ver' ex') ∧ ver ≤ ver' ∧ (ver = ver' → xs'.length = xs.length ∧ φ' n = φ n)
theorem HLe.refl (H : List (Nat × O)) (φ : Place) : HLe H φ H φ := by
  intro n o h
  cases o with
  | box cs => exact ⟨⟨cs, h⟩, rfl⟩
  | row sz xs ver ex => exact ⟨xs, ver, ex, h, Nat.le_refl _, fun _ => ⟨rfl, rfl⟩⟩
theorem HLe.trans {H H' H'' : List (Nat × O)} {φ φ' φ'' : Place} (h : HLe H φ H' φ') (h' : HLe H' φ' H'' φ'') : HLe H φ H'' φ'' := by
  intro n o ho
  have h1 := h n o ho
  cases o with
  | box cs =>
    obtain ⟨⟨cs', h1⟩, h2⟩ := h1
    obtain ⟨⟨cs'', h3⟩, h4⟩ := h' n _ h1
    exact ⟨⟨cs'', h3⟩, h4.trans h2⟩
  | row sz xs ver ex =>
    obtain ⟨xs', ver', ex', h1, h2, h3⟩ := h1
    obtain ⟨xs'', ver'', ex'', h4, h5, h6⟩ := h' n _ h1
    refine ⟨xs'', ver'', ex'', h4, Nat.le_trans h2 h5, fun e => ?_⟩
    obtain ⟨h7, h8⟩ := h3 (by omega)
    obtain ⟨h9, h10⟩ := h6 (by omega)
    exact ⟨h9.trans h7, h10.trans h8⟩
theorem RelC.mono {w w' : World} {S S' : Addr → Prop} {H H' : List (Nat × O)} {φ φ' : Place} (hle : Le w S w' S') (hh : HLe H φ H' φ') {c : C} {v : Value} (h : RelC w S H φ c v) : RelC w' S' H' φ' c v := by
  induction h with
  | d x v h => exact .d x v (h.mono hle)
  | nils => exact .nils
  | row n ver sz xs ver' ex a len cap hf hv h =>
    obtain ⟨xs', ver'', ex', h1, h2, h3⟩ := hh n _ hf
    refine .row n ver sz xs' ver'' ex' a len cap h1 (Nat.le_trans hv h2) fun e => ?_
    obtain ⟨h4, h5⟩ := h3 (by omega)
    rw [h4, h5]; exact h (by omega)
  | ptr n off cs b hf hb =>
    obtain ⟨⟨cs', h1⟩, h2⟩ := hh n _ hf
    exact .ptr n off cs' b h1 (h2.trans hb)
  | eptr n ver i off sz xs ver' ex a hf hv h =>
    obtain ⟨xs', ver'', ex', h1, h2, h3⟩ := hh n _ hf
    refine .eptr n ver i off sz xs' ver'' ex' a h1 (Nat.le_trans hv h2) fun e => ?_
    obtain ⟨h4, h5⟩ := h3 (by omega)
    rw [h4, h5]; exact h (by omega)
  | dptr cs off b cv h =>
    refine .dptr cs off b cv fun j d hj => ?_
    obtain ⟨h1, h2, h3⟩ := h j d hj
    exact ⟨(hle _ h1).1, (hle _ h1).2.trans h2, h3.mono hle⟩
  | nilp => exact .nilp
  | fn f caps vs hl h ih => exact .fn f caps vs hl ih
  | nilf => exact .nilf
theorem RelC.one {w : World} {S : Addr → Prop} {H : List (Nat × O)} {φ : Place} {c : C} {v : Value} (h : RelC w S H φ c v) : v.oneCell' = true := by
  cases h with
  | d _ _ h => exact h.one
  | _ => rfl
theorem RelC.cells {w : World} {S : Addr → Prop} {H : List (Nat × O)} {φ : Place} {c : C} {v : Value} (h : RelC w S H φ c v) : v.cells = #[v] := by
  cases h with
  | d _ _ h => exact h.cells
  | _ => rfl
inductive RelV (w : World) (S : Addr → Prop) (H : List (Nat × O)) (φ : Place) : V → Value → Prop
  | u (v : Value) : RelV w S H φ .u v
  | kb (b : Bool) : RelV w S H φ (.kb b) (.bool b)
  | c (x : C) (v : Value) : RelC w S H φ x v → RelV w S H φ (.c x) v
  | agg (cs : List C) (vs : List Value) : F2 (RelC w S H φ) cs vs → RelV w S H φ (.agg cs) (.agg vs.toArray)
  | tup (xs : List V) (vs : List Value) (hl : xs.length = vs.length) (h : ∀ (i : Nat) x v, xs[i]? = some x → vs[i]? = some v → RelV w S H φ x v) : RelV w S H φ (.tup xs) (.tuple vs.toArray)
theorem RelV.mono {w w' : World} {S S' : Addr → Prop} {H H' : List (Nat × O)} {φ φ' : Place} (hle : Le w S w' S') (hh : HLe H φ H' φ') {x : V} {v : Value} (h : RelV w S H φ x v) : RelV w' S' H' φ' x v := by
  induction h with
  | u v => exact .u v
  | kb b => exact .kb b
  | c x v h => exact .c x v (h.mono hle hh)
  | agg cs vs h => exact .agg cs vs (h.mono fun _ _ h => h.mono hle hh)
  | tup xs vs hl h ih => exact .tup xs vs hl ih
theorem RelV.norm {w : World} {S : Addr → Prop} {H : List (Nat × O)} {φ : Place} {x : V} {v : Value} (h : RelV w S H φ x v) : RelV w S H φ x.norm v := by
  cases h with
  | kb b => exact .c _ _ (.d _ _ (.bool b))
  | u v => exact .u v
  | c x v h => exact .c x v h
  | agg cs vs h => exact .agg cs vs h
  | tup xs vs hl h => exact .tup xs vs hl h
theorem RelV.cells {w : World} {S : Addr → Prop} {H : List (Nat × O)} {φ : Place} {x : V} {v : Value} {cs : List C} (h : RelV w S H φ x v) (hc : x.cells = some cs) : F2 (RelC w S H φ) cs v.cells.toList := by
  cases h with
  | u v => simp [V.cells] at hc
  | kb b => simp [V.cells] at hc; subst hc; exact .cons (.d _ _ (.bool b)) .nil
  | c x v h => simp [V.cells] at hc; subst hc; rw [h.cells]; exact .cons h .nil
  | agg cs vs h => simp [V.cells] at hc; subst hc; simpa [Value.cells] using h
  | tup xs vs hl h => simp [V.cells] at hc

/-! ### Objects in memory -/
/-- An object lies so. -/
def ObjOk (w : World) (S : Addr → Prop) (H : List (Nat × O)) (φ : Place) (n : Nat) : O → Prop
  | .box cs => ∃ b vs t, (φ n).1 = some ⟨b, 0, none⟩ ∧ w.heap[b]? = some (.cells vs.toArray t (0, 0)) ∧ F2 (RelC w S H φ) cs vs
  | .row sz xs ver ex => (ex = true → (φ n).2 = xs.length) ∧ xs.length ≤ (φ n).2 ∧ (∀ e ∈ xs, e.length = sz) ∧
      (((φ n).1 = none ∧ (φ n).2 = 0) ∨ ∃ b cells t fz, (φ n).1 = some b ∧ b.spot = none ∧ w.heap[b.block]? = some (.cells cells t fz) ∧ b.off + (φ n).2 * sz ≤ cells.size ∧
        (∀ o, o < cells.size → ¬ (fz.1 ≤ o ∧ o < fz.2)) ∧ ∀ (i j : Nat) e d, xs[i]? = some e → e[j]? = some d → ∃ v, cells[b.off + (i * sz + j)]? = some v ∧ RelD w S d v)
/-- The blocks of the objects. -/
def Own (H : List (Nat × O)) (φ : Place) (k : Nat) : Prop := ∃ n o b, find H n = some o ∧ (φ n).1 = some b ∧ b.block = k
structure Inv (w : World) (S : Addr → Prop) (H : List (Nat × O)) (Z : List Nat) (φ : Place) : Prop where
  objs : ∀ n o, find H n = some o → ObjOk w S H φ n o
  inj : ∀ n m o o' b c, find H n = some o → find H m = some o' → n ≠ m → (φ n).1 = some b → (φ m).1 = some c → b.block ≠ c.block
  alloc : ∀ a, S a → a.block < w.heap.size
  sep : ∀ n o b a, find H n = some o → (φ n).1 = some b → S a → a.block = b.block → ∃ sz xs ver ex, o = .row sz xs ver ex ∧ n ∈ Z ∧ a.off < b.off + xs.length * sz
/-- How memory goes on: only the blocks of the objects, and new ones, turn. -/
structure Evo (B : Nat → Prop) (w : World) (S : Addr → Prop) (w' : World) (S' : Addr → Prop) : Prop where
  os : w'.os = w.os
  tape : w'.tape = w.tape
  output : w'.output = w.output
  size : w.heap.size ≤ w'.heap.size
  frame : ∀ k, k < w.heap.size → ¬ B k → w'.heap[k]? = w.heap[k]?
  le : Le w S w' S'
  fresh : ∀ a, S' a → S a ∨ w.heap.size ≤ a.block ∨ B a.block
theorem Evo.refl (B : Nat → Prop) (w : World) (S : Addr → Prop) : Evo B w S w S := ⟨rfl, rfl, rfl, Nat.le_refl _, fun _ _ _ => rfl, Le.refl _ _, fun a h => .inl h⟩
theorem Evo.trans {B B' : Nat → Prop} {w w' w'' : World} {S S' S'' : Addr → Prop} (h : Evo B w S w' S') (hb : ∀ k, B' k → B k ∨ w.heap.size ≤ k) (h' : Evo B' w' S' w'' S'') : Evo B w S w'' S'' where
  os := h'.os.trans h.os
  tape := h'.tape.trans h.tape
  output := h'.output.trans h.output
  size := Nat.le_trans h.size h'.size
  frame := fun k hk hn => (h'.frame k (Nat.lt_of_lt_of_le hk h.size) fun hk' => by
    rcases hb k hk' with h1 | h1
    · exact hn h1
    · omega).trans (h.frame k hk hn)
  le := h.le.trans h'.le
  fresh := fun a ha => by
    rcases h'.fresh a ha with h1 | h1 | h1
    · exact h.fresh a h1
    · exact .inr (.inl (Nat.le_trans h.size h1))
    · rcases hb _ h1 with h2 | h2
      · exact .inr (.inr h2)
      · exact .inr (.inl h2)
theorem Evo.mono {B B' : Nat → Prop} {w w' : World} {S S' : Addr → Prop} (h : Evo B w S w' S') (hb : ∀ k, B k → B' k) : Evo B' w S w' S' :=
  ⟨h.os, h.tape, h.output, h.size, fun k hk hn => h.frame k hk fun hk' => hn (hb k hk'), h.le, fun a ha => (h.fresh a ha).imp id (Or.imp id (hb _))⟩
/-- A step of memory, with its objects. -/
structure Step (H : List (Nat × O)) (φ : Place) (w : World) (S : Addr → Prop) (H' : List (Nat × O)) (φ' : Place) (w' : World) (S' : Addr → Prop) : Prop where
  evo : Evo (Own H φ) w S w' S'
  own : ∀ k, Own H' φ' k → Own H φ k ∨ w.heap.size ≤ k
theorem Step.refl (H : List (Nat × O)) (φ : Place) (w : World) (S : Addr → Prop) : Step H φ w S H φ w S := ⟨Evo.refl _ _ _, fun _ h => .inl h⟩
theorem Step.trans {H H' H'' : List (Nat × O)} {φ φ' φ'' : Place} {w w' w'' : World} {S S' S'' : Addr → Prop} (h : Step H φ w S H' φ' w' S') (h' : Step H' φ' w' S' H'' φ'' w'' S'') : Step H φ w S H'' φ'' w'' S'' :=
  ⟨h.evo.trans h.own h'.evo, fun k hk => by
    rcases h'.own k hk with h1 | h1
    · exact h.own k h1
    · exact .inr (Nat.le_trans h.evo.size h1)⟩
/-- What lies by other names stays. -/
def Fram (H : List (Nat × O)) (φ : Place) (ns : List Nat) (w w' : World) : Prop := ∀ m o b, find H m = some o → (φ m).1 = some b → m ∉ ns → w'.heap[b.block]? = w.heap[b.block]?
/-- The evaluator's state stands to a frame and a world. -/
structure Rst (N : Nat) (st : St) (a : Act) (w : World) (S : Addr → Prop) (φ : Place) : Prop where
  size : a.tmps.size = N
  defers : a.defers = []
  slots : ∀ t v, find st.F t = some v → RelV w S st.H φ v (a.tmps.getD t undef)
  inv : Inv w S st.H st.Z φ
theorem Inv.blocks {w : World} {S : Addr → Prop} {H : List (Nat × O)} {Z : List Nat} {φ : Place} (h : Inv w S H Z φ) : ∀ k, Own H φ k → k < w.heap.size := by
  rintro k ⟨n, o, b, hf, hb, rfl⟩
  have := h.objs n o hf
  cases o with
  | box cs =>
    obtain ⟨b', vs, t, h1, h2, _⟩ := this
    rw [hb] at h1; injection h1 with h1; subst h1
    exact (Array.getElem?_eq_some_iff.1 h2).1
  | row sz xs ver ex =>
    obtain ⟨_, _, _, h | ⟨b', cells, t, fz, h1, _, h2, _⟩⟩ := this
    · rw [hb] at h; cases h.1
    · rw [hb] at h1; injection h1 with h1; subst h1
      exact (Array.getElem?_eq_some_iff.1 h2).1
end Go.Proofs.YtcpidokhkcmdfaaGreat.I

/-! The evaluator's operations, one by one, against the model's: those that leave memory as it is. Conditions: those of each theorem. -/
namespace Go.Proofs.YtcpidokhkcmdfaaGreat.I
open Go
set_option linter.unusedVariables false
set_option linter.unusedSimpArgs false

/-! ### What an operation asks, as one value -/
def M.val {α : Type} (call : Oracle) (H : List (Nat × O)) (Z : List Nat) (m : M α) (lg : List Nat) : Option (α × List Nat) := m.run call H Z lg fun a l => some (a, l)
theorem M.run_val {α A : Type} (call : Oracle) (H : List (Nat × O)) (Z : List Nat) (m : M α) (K : α → List Nat → Option A) : ∀ lg, m.run call H Z lg K = (m.val call H Z lg).bind fun p => K p.1 p.2 := by
  induction m with
  | ret a => intro lg; rfl
  | fail => intro lg; rfl
  | look n k ih => intro lg; simp only [M.val, M.run]; cases find H n with
    | none => rfl
    | some o => exact ih o _
  | gone n k ih => intro lg; simp only [M.val, M.run]; cases find H n with
    | none => exact ih _
    | some o => rfl
  | live n k ih => intro lg; simp only [M.val, M.run]; cases memb Z n with
    | true => rfl
    | false => exact ih _
  | opt o k ih => intro lg; simp only [M.val, M.run]; cases o with
    | none => rfl
    | some b => exact ih b _
  | call f h args objs sh k ih => intro lg; simp only [M.val, M.run]; cases callT call sh f h args objs with
    | none => rfl
    | some t => exact ih t _
section val
variable {α : Type} {call : Oracle} {H : List (Nat × O)} {Z : List Nat} {lg : List Nat} {r : α × List Nat}
theorem val_ret {a : α} (h : (M.ret a).val call H Z lg = some r) : r = (a, lg) := by simp only [M.val, M.run, Option.some.injEq] at h; exact h.symm
theorem val_fail (h : (M.fail : M α).val call H Z lg = some r) : False := by simp [M.val, M.run] at h
theorem val_look {n : Nat} {k : O → M α} (h : (M.look n k).val call H Z lg = some r) : ∃ o, find H n = some o ∧ (k o).val call H Z (n :: lg) = some r := by
  simp only [M.val, M.run] at h
  cases hf : find H n with
  | none => simp [hf] at h
  | some o => simp only [hf] at h; exact ⟨o, rfl, h⟩
theorem val_gone {n : Nat} {k : M α} (h : (M.gone n k).val call H Z lg = some r) : find H n = none ∧ k.val call H Z (n :: lg) = some r := by
  simp only [M.val, M.run] at h
  cases hf : find H n with
  | none => simp only [hf] at h; exact ⟨rfl, h⟩
  | some o => simp [hf] at h
theorem val_live {n : Nat} {k : M α} (h : (M.live n k).val call H Z lg = some r) : memb Z n = false ∧ k.val call H Z ((n + 1000000) :: lg) = some r := by
  simp only [M.val, M.run] at h
  cases hf : memb Z n with
  | false => simp only [hf] at h; exact ⟨rfl, h⟩
  | true => simp [hf] at h
theorem val_opt {β : Type} {o : Option β} {k : β → M α} (h : (M.opt o k).val call H Z lg = some r) : ∃ b, o = some b ∧ (k b).val call H Z lg = some r := by
  simp only [M.val, M.run] at h
  cases o with
  | none => simp at h
  | some b => exact ⟨b, rfl, h⟩
theorem val_need {b : Bool} {m : M α} (h : (M.need b m).val call H Z lg = some r) : b = true ∧ m.val call H Z lg = some r := by
  obtain ⟨x, h1, h2⟩ := val_opt h
  cases b with
  | false => simp at h1
  | true => exact ⟨rfl, h2⟩
theorem val_call {f : Nat} {hi : Hint} {args : List V} {objs : List O} {sh : CSh} {k : sh.T → M α} (h : (M.call f hi args objs sh k).val call H Z lg = some r) : ∃ t, callT call sh f hi args objs = some t ∧ (k t).val call H Z lg = some r := by
  simp only [M.val, M.run] at h
  cases hf : callT call sh f hi args objs with
  | none => simp [hf] at h
  | some t => simp only [hf] at h; exact ⟨t, rfl, h⟩
theorem val_bif {b : Bool} {m m' : M α} (h : (bif b then m else m').val call H Z lg = some r) : (b = true ∧ m.val call H Z lg = some r) ∨ (b = false ∧ m'.val call H Z lg = some r) := by
  cases b with
  | true => exact .inl ⟨rfl, h⟩
  | false => exact .inr ⟨rfl, h⟩
/-- A guard whose other way fails. -/
theorem val_and {b : Bool} {m : M α} (h : (bif b then m else .fail).val call H Z lg = some r) : b = true ∧ m.val call H Z lg = some r := by
  rcases val_bif h with h | ⟨_, h⟩
  · exact h
  · exact (val_fail h).elim
end val
theorem val_pure {call : Oracle} {H : List (Nat × O)} {Z : List Nat} {lg : List Nat} {v : V} {r : Eff × List Nat} (h : (pureM v).val call H Z lg = some r) : r.1 = { v := v } ∧ r.2 = lg := by
  have := val_ret h; subst this; exact ⟨rfl, rfl⟩
theorem and_t {a b : Bool} (h : (a && b) = true) : a = true ∧ b = true := by cases a <;> cases b <;> simp_all

/-! ### Operands -/
theorem ofScalar_rel {w : World} {S : Addr → Prop} {H : List (Nat × O)} {φ : Place} {v : Value} {c : C} (h : ofScalar v = some c) : RelC w S H φ c v := by
  unfold ofScalar at h
  split at h <;> first | (injection h with h; subst h) | (cases h; done)
  · exact .d _ _ (.bool _)
  · exact .d _ _ (.int _ _)
  · rename_i s
    have : Value.string s = .string ⟨s.data.toList.toArray⟩ := by simp
    rw [this]; exact .d _ _ (.str _)
  · exact .nilp
  · exact .nils
  · exact .nilf
theorem omap_F2 {α β : Type} {f : α → Option β} {R : β → α → Prop} (hr : ∀ a b, f a = some b → R b a) : ∀ {as : List α} {bs : List β}, omap f as = some bs → F2 R bs as
  | [], bs, h => by simp only [omap, Option.some.injEq] at h; subst h; exact .nil
  | a :: as, bs, h => by
    simp only [omap] at h
    cases hf : f a with
    | none => simp [hf] at h
    | some b =>
      cases hm : omap f as with
      | none => simp [hf, hm] at h
      | some bs' =>
        simp [hf, hm] at h; subst h
        exact .cons (hr a b hf) (omap_F2 hr hm)
theorem ofValue_rel {w : World} {S : Addr → Prop} {H : List (Nat × O)} {φ : Place} (v : Value) : RelV w S H φ (ofValue v) v := by
  unfold ofValue
  split
  · rename_i cs
    split
    · rename_i l hl
      have := F2.mono (omap_F2 (R := fun c v => RelC w S H φ c v) (fun a b h => ofScalar_rel h) hl) fun _ _ h => h
      have h2 := RelV.agg l cs.toList this
      simpa using h2
    · exact .u _
  · split
    · rename_i c hc
      exact .c _ _ (ofScalar_rel hc)
    · exact .u _
theorem Rst.ev {N : Nat} {st : St} {a : Act} {w : World} {S : Addr → Prop} {φ : Place} (h : Rst N st a w S φ) (x : Operand) : RelV w S st.H φ (ev st.F x) (a.eval x) := by
  cases x with
  | tmp t =>
    simp only [I.ev, Act.eval]
    cases hf : find st.F t with
    | none => exact .u _
    | some v => exact (h.slots t v hf).norm
  | const v => exact ofValue_rel v
  | global g => exact .u _
  | func f => exact .c _ _ (.fn f [] [] rfl (by simp))
theorem ev_ne_kb (F : List (Nat × V)) (x : Operand) (b : Bool) : ev F x ≠ .kb b := by
  cases x with
  | tmp t =>
    simp only [I.ev]
    cases find F t with
    | none => simp
    | some v => cases v <;> simp [V.norm]
  | const v =>
    simp only [I.ev, ofValue]
    split
    · split <;> simp
    · split <;> simp
  | global g => simp [I.ev]
  | func f => simp [I.ev]

/-! ### The state goes on -/
theorem Rst.put {N : Nat} {st : St} {a : Act} {w : World} {S : Addr → Prop} {φ : Place} (h : Rst N st a w S φ) {d : Option Nat} (hd : ∀ t, d = some t → t < N) {v : V} {u : Value} (hv : RelV w S st.H φ v u) :
    Rst N (st.put d v) (a.put d u) w S φ := by
  cases d with
  | none => exact h
  | some d =>
    have hlt := hd d rfl
    refine ⟨by simp [Act.put, h.size], by simp [Act.put, h.defers], fun t x hx => ?_, h.inv⟩
    simp only [St.put, find_cons] at hx
    simp only [Act.put]
    by_cases e : d = t
    · subst e
      simp only [if_true, Option.some.injEq] at hx; subst hx
      have : d < a.tmps.size := by rw [h.size]; exact hlt
      simp [this]; exact hv
    · simp only [e, if_false] at hx
      have := h.slots t x hx
      have h2 : (a.tmps.setIfInBounds d u).getD t undef = a.tmps.getD t undef := by simp [Array.getElem?_setIfInBounds_ne e]
      rw [h2]; exact this
theorem Rst.go {N : Nat} {st : St} {a : Act} {w : World} {S : Addr → Prop} {φ : Place} (h : Rst N st a w S φ) {H' : List (Nat × O)} {Z' : List Nat} {w' : World} {S' : Addr → Prop} {φ' : Place}
    (hi : Inv w' S' H' Z' φ') (hle : Le w S w' S') (hh : HLe st.H φ H' φ') : Rst N { F := st.F, H := H', Z := Z' } a w' S' φ' :=
  ⟨h.size, h.defers, fun t v hv => (h.slots t v hv).mono hle hh, hi⟩
/-- An operation has gone well: its value, and how memory went on. -/
def Good (P : Program) (o : Oper) (st : St) (a : Act) (w : World) (S : Addr → Prop) (φ : Place) (eff : Eff) : Prop :=
  ∃ u w' S' φ', ((execOp a.eval o).run P w = .ok (.value u) w' ∨ ((execOp a.eval o).run P w = .ok .skip w' ∧ u = undef)) ∧ RelV w' S' (st.upd o.dst eff).H φ' eff.v u ∧
    Inv w' S' (st.upd o.dst eff).H (st.upd o.dst eff).Z φ' ∧ HLe st.H φ (st.upd o.dst eff).H φ' ∧ Step st.H φ w S (st.upd o.dst eff).H φ' w' S' ∧ Fram st.H φ (fsts eff.upd) w w'
theorem upd_eq (st : St) (d : Option Nat) (e : Eff) : st.upd d e = ({ F := st.F, H := (st.upd d e).H, Z := (st.upd d e).Z } : St).put d e.v := by
  cases d <;> rfl
theorem Good.wp {P : Program} {o : Oper} {N : Nat} {st : St} {a : Act} {w : World} {S : Addr → Prop} {φ : Place} {eff : Eff} (h : Good P o st a w S φ eff) (hR : Rst N st a w S φ) (hd : ∀ t, o.dst = some t → t < N)
    {next : Act → World → Prop} {Q : Exit → Act → World → Prop} (hn : ∀ u w' S' φ', Rst N (st.upd o.dst eff) (a.put o.dst u) w' S' φ' → Step st.H φ w S (st.upd o.dst eff).H φ' w' S' → HLe st.H φ (st.upd o.dst eff).H φ' → Fram st.H φ (fsts eff.upd) w w' → next (a.put o.dst u) w') : o.wp P a w next Q := by
  obtain ⟨u, w', S', φ', hrun, hv, hi, hh, hs, hf⟩ := h
  have hR' : Rst N (st.upd o.dst eff) (a.put o.dst u) w' S' φ' := by
    rw [upd_eq]
    exact (hR.go hi hs.evo.le hh).put hd hv
  have := hn _ _ _ _ hR' hs hh hf
  unfold Oper.wp
  rcases hrun with hrun | ⟨hrun, rfl⟩
  · rw [hrun]; exact this
  · rw [hrun]; exact this
theorem good_pure {P : Program} {o : Oper} {N : Nat} {st : St} {a : Act} {w : World} {S : Addr → Prop} {φ : Place} (hR : Rst N st a w S φ) {v : V} {u : Value} (hrun : (execOp a.eval o).run P w = .ok (.value u) w) (hv : RelV w S st.H φ v u) : Good P o st a w S φ { v := v } := by
  have e : (st.upd o.dst { v := v }).H = st.H := by cases hd : o.dst <;> simp [St.upd]
  have e2 : (st.upd o.dst { v := v }).Z = st.Z := by cases hd : o.dst <;> simp [St.upd]
  refine ⟨u, w, S, φ, .inl hrun, ?_, ?_, ?_, ?_, fun _ _ _ _ _ _ => rfl⟩
  · rw [e]; exact hv
  · rw [e, e2]; exact hR.inv
  · rw [e]; exact HLe.refl _ _
  · rw [e]; exact Step.refl _ _ _ _

/-! ### Rows that are data from now on -/
/-- What is stable grows by cells of the objects' blocks alone. -/
structure Frz (w : World) (H : List (Nat × O)) (φ : Place) (S S' : Addr → Prop) : Prop where
  le : Le w S w S'
  own : ∀ a, S' a → S a ∨ Own H φ a.block
theorem Frz.refl (w : World) (H : List (Nat × O)) (φ : Place) (S : Addr → Prop) : Frz w H φ S S := ⟨Le.refl _ _, fun a h => .inl h⟩
theorem Frz.trans {w : World} {H : List (Nat × O)} {φ : Place} {S S' S'' : Addr → Prop} (h : Frz w H φ S S') (h' : Frz w H φ S' S'') : Frz w H φ S S'' :=
  ⟨h.le.trans h'.le, fun a ha => by
    rcases h'.own a ha with h1 | h1
    · exact h.own a h1
    · exact .inr h1⟩
theorem Frz.step {w : World} {H : List (Nat × O)} {φ : Place} {S S' : Addr → Prop} (h : Frz w H φ S S') : Step H φ w S H φ w S' :=
  ⟨⟨rfl, rfl, rfl, Nat.le_refl _, fun _ _ _ => rfl, h.le, fun a ha => (h.own a ha).imp id .inr⟩, fun _ hk => .inl hk⟩
theorem cell_heap {w : World} {b : Addr} {cells : Array Value} {t : TypeId} {fz : Nat × Nat} (hs : b.spot = none) (hb : w.heap[b.block]? = some (.cells cells t fz)) (k : Nat) : w.cell? (b.add k) = cells[b.off + k]? := by
  have h1 : (b.add k).block = b.block ∧ (b.add k).off = b.off + k ∧ (b.add k).spot = none := by
    unfold Addr.add; split <;> simp_all
  simp only [World.cell?, h1.1, h1.2.1, h1.2.2, hb, Option.isSome_none, Bool.false_eq_true, if_false]
theorem add_parts (b : Addr) (k : Nat) (hs : b.spot = none) : (b.add k).block = b.block ∧ (b.add k).off = b.off + k ∧ (b.add k).spot = none := by
  unfold Addr.add; split <;> simp_all
theorem Inv.freeze {w : World} {S : Addr → Prop} {H : List (Nat × O)} {Z : List Nat} {φ : Place} (h : Inv w S H Z φ) {n sz : Nat} {xs : List (List D)} {ver : Nat} {ex : Bool} (hf : find H n = some (.row sz xs ver ex)) :
    ∃ S', Inv w S' H (n :: Z) φ ∧ Frz w H φ S S' ∧ RelD w S' (.list xs) (.slice (φ n).1 xs.length (φ n).2) ∧ (ex = true → RelD w S' (.lit xs) (.slice (φ n).1 xs.length (φ n).2)) := by
  have ho := h.objs n _ hf
  obtain ⟨hex, hlen, hsz, hb⟩ := ho
  let S' : Addr → Prop := fun a => S a ∨ ∃ b, (φ n).1 = some b ∧ a.block = b.block ∧ a.off < b.off + xs.length * sz
  have hfr : Frz w H φ S S' := ⟨fun a ha => ⟨.inl ha, rfl⟩, fun a ha => by
    rcases ha with ha | ⟨b, hb, h1, _⟩
    · exact .inl ha
    · exact .inr ⟨n, _, b, hf, hb, h1.symm⟩⟩
  have hle := hfr.le
  refine ⟨S', ⟨fun m o hm => ?_, h.inj, fun a ha => ?_, fun m o b a hm hmb ha hab => ?_⟩, hfr, ?_⟩
  · have := h.objs m o hm
    cases o with
    | box cs =>
      obtain ⟨b, vs, t, h1, h2, h3⟩ := this
      exact ⟨b, vs, t, h1, h2, h3.mono fun _ _ h => h.mono hle (HLe.refl _ _)⟩
    | row sz' xs' ver' ex' =>
      obtain ⟨g1, g2, g3, g4⟩ := this
      refine ⟨g1, g2, g3, ?_⟩
      rcases g4 with g4 | ⟨b, cells, t, fz, k1, k2, k3, k4, k5, k6⟩
      · exact .inl g4
      · refine .inr ⟨b, cells, t, fz, k1, k2, k3, k4, k5, fun i j e d hi hj => ?_⟩
        obtain ⟨v, k7, k8⟩ := k6 i j e d hi hj
        exact ⟨v, k7, k8.mono hle⟩
  · rcases ha with ha | ⟨b, hb, h1, h2⟩
    · exact h.alloc a ha
    · rw [h1]; exact h.blocks _ ⟨n, _, b, hf, hb, rfl⟩
  · rcases ha with ha | ⟨b', hb', h1, h2⟩
    · obtain ⟨sz', xs', ver', ex', k1, k2, k3⟩ := h.sep m o b a hm hmb ha hab
      exact ⟨sz', xs', ver', ex', k1, List.mem_cons_of_mem _ k2, k3⟩
    · by_cases e : m = n
      · subst e
        rw [hf] at hm; injection hm with hm; subst hm
        rw [hmb] at hb'; injection hb' with hb'; subst hb'
        exact ⟨sz, xs, ver, ex, rfl, by simp, h2⟩
      · exact absurd (hab.symm.trans h1) (h.inj m n o _ b b' hm hf e hmb hb')
  · have key : ∀ x, (x = .list xs ∨ (x = .lit xs ∧ (φ n).2 = xs.length)) → RelD w S' x (.slice (φ n).1 xs.length (φ n).2) := by
      intro x hx
      rcases hb with hb | ⟨b, cells, t, fz, k1, k2, k3, k4, k5, k6⟩
      · have : xs = [] := List.eq_nil_of_length_eq_zero (by omega)
        exact .sl x xs _ _ sz (fun _ _ => undef) hx hlen hsz (.inl this) (by simp [this])
      · have hcell : ∀ i j, i < xs.length → j < sz → i * sz + j < xs.length * sz := fun i j hi hj => by
          have : (i + 1) * sz ≤ xs.length * sz := Nat.mul_le_mul_right _ hi
          rw [Nat.add_mul] at this; omega
        refine .sl x xs _ _ sz (fun i j => cells.getD (b.off + (i * sz + j)) undef) hx hlen hsz (.inr ⟨b, k1, fun i j hi hj => ?_⟩) fun i j e d hi hj => ?_
        · have hp := add_parts b (i * sz + j) k2
          have := hcell i j hi hj
          refine ⟨.inr ⟨b, k1, hp.1, by rw [hp.2.1]; omega⟩, ?_⟩
          rw [cell_heap k2 k3]
          have hin : b.off + (i * sz + j) < cells.size := by
            have : xs.length * sz ≤ (φ n).2 * sz := Nat.mul_le_mul_right _ hlen
            omega
          simp [hin]
        · obtain ⟨v, k7, k8⟩ := k6 i j e d hi hj
          have : cells.getD (b.off + (i * sz + j)) undef = v := by
            rw [Array.getD_eq_getD_getElem?, k7]; rfl
          rw [this]; exact k8.mono hle
    exact ⟨key _ (.inl rfl), fun he => key _ (.inr ⟨rfl, hex he⟩)⟩
theorem good_frz {P : Program} {o : Oper} {N : Nat} {st : St} {a : Act} {w : World} {S : Addr → Prop} {φ : Place} (hR : Rst N st a w S φ) {v : V} {u : Value} {fz : List Nat} {S' : Addr → Prop} (hrun : (execOp a.eval o).run P w = .ok (.value u) w)
    (hi : Inv w S' st.H (fz ++ st.Z) φ) (hf : Frz w st.H φ S S') (hv : RelV w S' st.H φ v u) : Good P o st a w S φ { v := v, fz := fz } := by
  have e : (st.upd o.dst { v := v, fz := fz }).H = st.H := by cases hd : o.dst <;> simp [St.upd]
  have e2 : (st.upd o.dst { v := v, fz := fz }).Z = fz ++ st.Z := by cases hd : o.dst <;> simp [St.upd]
  refine ⟨u, w, S', φ, .inl hrun, ?_, ?_, ?_, ?_, fun _ _ _ _ _ _ => rfl⟩
  · rw [e]; exact hv
  · rw [e, e2]; exact hi
  · rw [e]; exact HLe.refl _ _
  · rw [e]; exact hf.step
theorem toD_sound {α : Type} {call : Oracle} {H : List (Nat × O)} {Z : List Nat} {lit : Bool} {c : C} {fz lg : List Nat} {k : D → List Nat → M α} {r : α × List Nat} (h : (toD lit c fz k).val call H Z lg = some r) :
    ∃ d fz' lg', (k d fz').val call H Z lg' = some r ∧ ∀ w S φ v, Inv w S H (fz ++ Z) φ → RelC w S H φ c v → ∃ S', Inv w S' H (fz' ++ Z) φ ∧ Frz w H φ S S' ∧ RelD w S' d v := by
  unfold toD at h
  split at h
  · rename_i x
    exact ⟨x, fz, lg, h, fun w S φ v hi hc => ⟨S, hi, Frz.refl _ _ _ _, by cases hc; assumption⟩⟩
  · exact ⟨_, fz, lg, h, fun w S φ v hi hc => ⟨S, hi, Frz.refl _ _ _ _, by cases hc; exact .sl _ [] none 0 0 (fun _ _ => undef) (.inl rfl) (Nat.le_refl _) (by simp) (.inl rfl) (by simp)⟩⟩
  · rename_i n ver
    obtain ⟨o, hf, h⟩ := val_look h
    split at h
    · rename_i sz xs v ex
      obtain ⟨hb, h2⟩ := val_and h
      have hb := beq_iff.1 hb
      subst hb
      refine ⟨_, _, _, h2, fun w S φ u hi hc => ?_⟩
      cases hc with
      | row _ _ sz' xs' ver' ex' a len cap hf' hv' h' =>
        rw [hf] at hf'; injection hf' with hf'; injection hf' with e1 e2 e3 e4
        subst e1 e2 e3 e4
        obtain ⟨S', k1, k2, k3, k4⟩ := hi.freeze hf
        refine ⟨S', k1, k2, ?_⟩
        rw [h' rfl]
        unfold asList
        cases hl : lit && ex with
        | false => exact k3
        | true => exact k4 (and_t hl).2
    · exact (val_fail h).elim
  · exact (val_fail h).elim
theorem toDs_sound {α : Type} {call : Oracle} {H : List (Nat × O)} {Z : List Nat} {lit : Bool} : ∀ {cs : List C} {fz lg : List Nat} {k : List D → List Nat → M α} {r : α × List Nat}, (toDs lit cs fz k).val call H Z lg = some r →
    ∃ ds fz' lg', (k ds fz').val call H Z lg' = some r ∧ ds.length = cs.length ∧ ∀ w S φ vs, Inv w S H (fz ++ Z) φ → F2 (RelC w S H φ) cs vs → ∃ S', Inv w S' H (fz' ++ Z) φ ∧ Frz w H φ S S' ∧ F2 (RelD w S') ds vs
  | [], fz, lg, k, r, h => ⟨[], fz, lg, h, rfl, fun w S φ vs hi hc => ⟨S, hi, Frz.refl _ _ _ _, by cases hc; exact .nil⟩⟩
  | c :: cs, fz, lg, k, r, h => by
    simp only [toDs] at h
    obtain ⟨d, fz1, lg1, h1, hs1⟩ := toD_sound h
    obtain ⟨ds, fz2, lg2, h2, hln, hs2⟩ := toDs_sound h1
    refine ⟨d :: ds, fz2, lg2, h2, by simp [hln], fun w S φ vs hi hc => ?_⟩
    cases hc with
    | cons hc hcs =>
      obtain ⟨S1, i1, f1, r1⟩ := hs1 w S φ _ hi hc
      obtain ⟨S2, i2, f2, r2⟩ := hs2 w S1 φ _ i1 (hcs.mono fun _ _ h => h.mono f1.le (HLe.refl _ _))
      exact ⟨S2, i2, f1.trans f2, .cons (r1.mono f2.le) r2⟩
end Go.Proofs.YtcpidokhkcmdfaaGreat.I

/-! The evaluator's operations against the model's: numbers, strings, parts of values, loads. Conditions: those of each theorem. -/
namespace Go.Proofs.YtcpidokhkcmdfaaGreat.I
open Go
set_option linter.unusedVariables false
set_option linter.unusedSimpArgs false

theorem RelV.inv_c {w : World} {S : Addr → Prop} {H : List (Nat × O)} {φ : Place} {x : C} {v : Value} (h : RelV w S H φ (.c x) v) : RelC w S H φ x v := by cases h; assumption
theorem RelV.inv_d {w : World} {S : Addr → Prop} {H : List (Nat × O)} {φ : Place} {x : D} {v : Value} (h : RelV w S H φ (.c (.d x)) v) : RelD w S x v := by cases h.inv_c; assumption
theorem relInt {w : World} {S : Addr → Prop} {H : List (Nat × O)} {φ : Place} (k : IntKind) (n : Int) : RelV w S H φ (intV k n) (.int k n) := .c _ _ (.d _ _ (.int k n))
theorem relBool {w : World} {S : Addr → Prop} {H : List (Nat × O)} {φ : Place} (b : Bool) : RelV w S H φ (boolV b) (.bool b) := .c _ _ (.d _ _ (.bool b))
theorem relStr {w : World} {S : Addr → Prop} {H : List (Nat × O)} {φ : Place} (s : List UInt8) : RelV w S H φ (strV s) (.string ⟨s.toArray⟩) := .c _ _ (.d _ _ (.str s))

section
variable {P : Program} {hs : Hints} {call : Oracle} {N : Nat} {st : St} {a : Act} {w : World} {S : Addr → Prop} {φ : Place} {o : Oper} {lg : List Nat} {r : Eff × List Nat}

theorem move_good (hR : Rst N st a w S φ) {x : Operand} (ho : o.op = .move x ∨ o.op = .assign x) (h : (pureM (ev st.F x)).val call st.H st.Z lg = some r) : Good P o st a w S φ r.1 := by
  obtain ⟨h1, _⟩ := val_pure h
  rw [h1]
  refine good_pure hR (u := a.eval x) ?_ (hR.ev x)
  rcases ho with ho | ho <;> simp [execOp, ho]

theorem pick_good (hR : Rst N st a w S φ) {c x y : Operand} (ho : o.op = .pick c x y) (h : (pickM (ev st.F c) (ev st.F x) (ev st.F y)).val call st.H st.Z lg = some r) : Good P o st a w S φ r.1 := by
  have hc := hR.ev c
  have hx := hR.ev x
  have hy := hR.ev y
  unfold pickM at h
  split at h
  · rename_i t ht
    rw [ht] at hc
    have hc := hc.inv_d.inv_bool
    have hrun : (execOp a.eval o).run P w = .ok (.value (if t then a.eval x else a.eval y)) w := by simp [execOp, ho, hc, asBool]
    split at h
    · rename_i p q hp hq
      obtain ⟨h1, _⟩ := val_pure h
      rw [h1]
      rw [hp] at hx; rw [hq] at hy
      have hx := hx.inv_d.inv_bool
      have hy := hy.inv_d.inv_bool
      refine good_pure hR hrun ?_
      cases t
      · simp [hy]; exact relBool q
      · simp [hx]; exact relBool p
    · obtain ⟨h1, _⟩ := val_pure h
      rw [h1]
      refine good_pure hR hrun ?_
      cases t
      · simpa using hy
      · simpa using hx
  · exact (val_fail h).elim

theorem toList_str (s : List UInt8) : (ByteArray.mk s.toArray).toList = s := ByteArray.toList_mk s
theorem size_str (s : List UInt8) : (ByteArray.mk s.toArray).size = s.length := by simp [ByteArray.size]
theorem append_str (s t : List UInt8) : (ByteArray.mk s.toArray) ++ (ByteArray.mk t.toArray) = ⟨(s ++ t).toArray⟩ := by
  apply ByteArray.ext
  simp [ByteArray.data_append]
theorem kEq_iff {k k' : IntKind} : kEq k k' = true ↔ k = k' := by simp [kEq]
theorem beq_dec (a b : Int) : (a == b) = decide (a = b) := by rw [Bool.eq_iff_iff]; simp

theorem bin_int_good (hR : Rst N st a w S φ) {op : BinOp} {t t' : TypeId} {x y : Operand} (ho : o.op = .binOp op t x y t') {k k' : IntKind} {p q : Int} (hx : ev st.F x = .c (.d (.int k p))) (hy : ev st.F y = .c (.d (.int k' q)))
    (h : (binM P op t (ev st.F x) (ev st.F y)).val call st.H st.Z lg = some r) : Good P o st a w S φ r.1 := by
  have rx := hR.ev x
  have ry := hR.ev y
  rw [hx] at rx; rw [hy] at ry
  have rx := rx.inv_d.inv_int
  have ry := ry.inv_d.inv_int
  rw [hx, hy] at h
  simp only [binM] at h
  have hexec : (execOp a.eval o).run P w = ((binOp op t (.int k p) (.int k' q)).run P w).andThen fun v w' => .ok (.value v) w' := by
    simp [execOp, ho, rx, ry, eqGuard_at_int]
  cases op
  case shl =>
    replace h := val_need h
    obtain ⟨h0, h⟩ := h
    obtain ⟨h1, _⟩ := val_pure h
    rw [h1]
    have h0 : ¬ q < 0 := by simpa using h0
    exact good_pure hR (by rw [hexec]; simp [binOp, Op.shift, h0] <;> rfl) (relInt _ _)
  case shr =>
    replace h := val_need h
    obtain ⟨h0, h⟩ := h
    obtain ⟨h1, _⟩ := val_pure h
    rw [h1]
    have h0 : ¬ q < 0 := by simpa using h0
    exact good_pure hR (by rw [hexec]; simp [binOp, Op.shift, h0] <;> rfl) (relInt _ _)
  all_goals
    replace h := val_and h
    obtain ⟨hk, h⟩ := h
    have hk := kEq_iff.1 hk
    subst hk
  case quo =>
    replace h := val_need h
    obtain ⟨h0, h⟩ := h
    obtain ⟨h1, _⟩ := val_pure h
    rw [h1]
    have h0 : ¬ q = 0 := by simpa using h0
    exact good_pure hR (by rw [hexec]; simp [binOp, Op.intDiv, h0] <;> rfl) (relInt _ _)
  case rem =>
    replace h := val_need h
    obtain ⟨h0, h⟩ := h
    obtain ⟨h1, _⟩ := val_pure h
    rw [h1]
    have h0 : ¬ q = 0 := by simpa using h0
    exact good_pure hR (by rw [hexec]; simp [binOp, Op.intDiv, h0] <;> rfl) (relInt _ _)
  all_goals first
    | exact (val_fail h).elim
    | (obtain ⟨h1, _⟩ := val_pure h
       rw [h1]
       first
        | exact good_pure hR (by rw [hexec]; simp [binOp, Op.intArith] <;> rfl) (relInt _ _)
        | exact good_pure hR (by rw [hexec]; simp [binOp, Op.intBits] <;> rfl) (relInt _ _)
        | exact good_pure hR (by rw [hexec]; simp [binOp, Op.intCmp, beq_dec, bne] <;> rfl) (relBool _))

theorem bin_str_good (hR : Rst N st a w S φ) {op : BinOp} {t t' : TypeId} {x y : Operand} (ho : o.op = .binOp op t x y t') {p q : List UInt8} (hx : ev st.F x = .c (.d (.str p))) (hy : ev st.F y = .c (.d (.str q)))
    (h : (binM P op t (ev st.F x) (ev st.F y)).val call st.H st.Z lg = some r) : Good P o st a w S φ r.1 := by
  have rx := hR.ev x
  have ry := hR.ev y
  rw [hx] at rx; rw [hy] at ry
  have rx := rx.inv_d.inv_str
  have ry := ry.inv_d.inv_str
  rw [hx, hy] at h
  simp only [binM] at h
  have hexec : (execOp a.eval o).run P w = ((binOp op t (.string ⟨p.toArray⟩) (.string ⟨q.toArray⟩)).run P w).andThen fun v w' => .ok (.value v) w' := by
    simp [execOp, ho, rx, ry, eqGuard_at_string]
  have hbeq : (p == q) = decide (p = q) := by rw [Bool.eq_iff_iff]; simp
  cases op
  case add =>
    obtain ⟨b, h0, h⟩ := val_opt h
    obtain ⟨h1, _⟩ := val_pure h
    rw [h1]
    unfold cat at h0
    split at h0
    · rename_i hl
      injection h0 with h0
      subst h0
      refine good_pure hR (u := .string ⟨(p ++ q).toArray⟩) ?_ (relStr _)
      have hl' : ¬ ((9223372036854775807 : Int) < (p.length : Int) + (q.length : Int)) := by omega
      rw [hexec]
      simp [binOp, Op.stringOp, append_str, size_str]
      omega
    · cases h0
  all_goals first
    | exact (val_fail h).elim
    | (obtain ⟨h1, _⟩ := val_pure h
       rw [h1]
       exact good_pure hR (by rw [hexec]; simp [binOp, Op.stringOp, hbeq, bne] <;> rfl) (relBool _))

theorem bin_bool_good (hR : Rst N st a w S φ) {op : BinOp} {t t' : TypeId} {x y : Operand} (ho : o.op = .binOp op t x y t') {p q : Bool} (hx : ev st.F x = .c (.d (.bool p))) (hy : ev st.F y = .c (.d (.bool q)))
    (h : (binM P op t (ev st.F x) (ev st.F y)).val call st.H st.Z lg = some r) : Good P o st a w S φ r.1 := by
  have rx := hR.ev x
  have ry := hR.ev y
  rw [hx] at rx; rw [hy] at ry
  have rx := rx.inv_d.inv_bool
  have ry := ry.inv_d.inv_bool
  rw [hx, hy] at h
  simp only [binM] at h
  have hexec : (execOp a.eval o).run P w = ((binOp op t (.bool p) (.bool q)).run P w).andThen fun v w' => .ok (.value v) w' := by
    simp [execOp, ho, rx, ry, eqGuard_at_bool]
  split at h
  · rename_i hu
    obtain ⟨h1, _⟩ := val_pure h
    rw [h1]
    exact good_pure hR (by rw [hexec]; simp [binOp, Op.equal, Op.maxDepth, run_equalIn_bool' _ _ _ _ _ hu] <;> rfl) (relBool _)
  · rename_i hu
    obtain ⟨h1, _⟩ := val_pure h
    rw [h1]
    exact good_pure hR (by rw [hexec]; simp [binOp, Op.equal, Op.maxDepth, run_equalIn_bool' _ _ _ _ _ hu] <;> rfl) (relBool _)
  · exact (val_fail h).elim

theorem un_good (hR : Rst N st a w S φ) {op : UnOp} {t : TypeId} {x : Operand} (ho : o.op = .unOp op t x) (h : (unM op (ev st.F x)).val call st.H st.Z lg = some r) : Good P o st a w S φ r.1 := by
  have rx := hR.ev x
  unfold unM at h
  split at h
  · rename_i b hb
    rw [hb] at rx
    have rx := rx.inv_d.inv_bool
    obtain ⟨h1, _⟩ := val_pure h
    rw [h1]
    exact good_pure hR (by simp [execOp, ho, rx, Op.unary] <;> rfl) (relBool _)
  · rename_i k n hb
    rw [hb] at rx
    have rx := rx.inv_d.inv_int
    obtain ⟨h1, _⟩ := val_pure h
    rw [h1]
    exact good_pure hR (by simp [execOp, ho, rx, Op.unary, Op.intArith] <;> rfl) (relInt _ _)
  · exact (val_fail h).elim

theorem extract_good (hR : Rst N st a w S φ) {x : Operand} {i : Nat} (ho : o.op = .extract x i) (h : (extractM (ev st.F x) i).val call st.H st.Z lg = some r) : Good P o st a w S φ r.1 := by
  have rx := hR.ev x
  unfold extractM at h
  split at h
  · rename_i vs hv
    rw [hv] at rx
    split at h
    · rename_i v hn
      obtain ⟨h1, _⟩ := val_pure h
      rw [h1]
      have nth_get : ∀ (l : List V) (i : Nat), nth l i = l[i]? := by
        intro l
        induction l with
        | nil => intro i; simp [nth]
        | cons x l ih => intro i; cases i <;> simp [nth, ih]
      rw [nth_get] at hn
      generalize hu : a.eval x = u at rx
      cases rx with
      | tup _ us hl hh =>
        have hi : i < us.length := by rw [← hl]; exact (List.getElem?_eq_some_iff.1 hn).1
        refine good_pure hR (u := us[i]) ?_ (hh i v _ hn (List.getElem?_eq_getElem hi))
        simp [execOp, ho, hu, Instr.extract, List.getElem?_eq_getElem hi]
    · exact (val_fail h).elim
  · exact (val_fail h).elim

theorem nilCheck_good (hR : Rst N st a w S φ) {x : Operand} (ho : o.op = .nilCheck x) (h : (nilCheckM (ev st.F x)).val call st.H st.Z lg = some r) : Good P o st a w S φ r.1 := by
  have rx := hR.ev x
  unfold nilCheckM at h
  split at h
  case h_5 => exact (val_fail h).elim
  all_goals
    rename_i hb
    obtain ⟨h1, _⟩ := val_pure h
    rw [h1, ← hb]
    refine good_pure hR (u := a.eval x) ?_ (hR.ev x)
    rw [hb] at rx
    generalize hu : a.eval x = u at rx
    cases rx.inv_c
    simp [execOp, ho, hu]
end
end Go.Proofs.YtcpidokhkcmdfaaGreat.I

/-! The evaluator's operations against the model's: conversions, parts, slices, loads. Conditions: those of each theorem. -/
namespace Go.Proofs.YtcpidokhkcmdfaaGreat.I
open Go
set_option linter.unusedVariables false
set_option linter.unusedSimpArgs false

/-! ### Types -/
theorem info_of_under {P : Program} {t : TypeId} {d : TypeDesc} (h : P.underlying t = some d) : ∃ i, P.info? t = some i := by
  unfold Program.underlying at h
  cases hi : P.info? t with
  | none => rw [hi] at h; cases h
  | some i => exact ⟨i, rfl⟩
theorem run_isAggT {P : Program} {t : TypeId} {d : TypeDesc} (h : P.underlying t = some d) (w : World) : (isAgg t).run P w = .ok (isAggT P t) w := by
  unfold isAgg isAggT
  simp only [Sem.run_bind, run_underlying h, Result.andThen_ok, h]
  cases d <;> rfl
theorem run_sizeT {P : Program} {t : TypeId} {d : TypeDesc} (h : P.underlying t = some d) (w : World) : (sizeOf t).run P w = .ok (P.cellsOf t) w := by
  obtain ⟨i, hi⟩ := info_of_under h
  exact run_sizeOf w hi
theorem okT_under {P : Program} {t : TypeId} (h : okT P t = true) : ∃ d, P.underlying t = some d := Option.isSome_iff_exists.1 h
theorem leaves_under {P : Program} {t : TypeId} {ls : List Leaf} (h : leaves P t = some ls) : ∃ d, P.underlying t = some d := by
  unfold leaves leavesF at h
  cases hu : P.underlying t with
  | none => rw [hu] at h; cases h
  | some d => exact ⟨d, rfl⟩

/-! ### Leaves -/
theorem dec_rel {w : World} {S : Addr → Prop} {H : List (Nat × O)} {φ : Place} {l : Leaf} {c : C} {x : l.T} {v : Value} (h : l.dec c = some x) (hc : RelC w S H φ c v) : RelC w S H φ (l.enc x) v := by
  unfold Leaf.dec at h
  split at h
  · rename_i k k' n
    cases hk : kEq k k' with
    | false => rw [hk] at h; cases h
    | true =>
      rw [hk] at h
      have := kEq_iff.1 hk
      subst this
      injection h with h
      subst h
      exact hc
  · injection h with h; subst h; exact hc
  · injection h with h; subst h; exact hc
  · injection h with h; subst h; exact hc
  · injection h with h; subst h
    cases hc with
    | d _ _ hd => exact .d _ _ hd.weak
  · injection h with h; subst h; exact hc
  · rename_i j ver j' ver'
    cases hj : Nat.beq j j' && Nat.beq ver ver' with
    | false => rw [hj] at h; cases h
    | true =>
      obtain ⟨h1, h2⟩ := and_t hj
      have h1 := beq_iff.1 h1
      have h2 := beq_iff.1 h2
      subst h1 h2
      exact hc
  · cases hc
  · cases h
theorem decs_rel {w : World} {S : Addr → Prop} {H : List (Nat × O)} {φ : Place} : ∀ {ls : List Leaf} {cs : List C} {x : Tup ls} {vs : List Value}, decs ls cs = some x → F2 (RelC w S H φ) cs vs → F2 (RelC w S H φ) (encs ls x) vs
  | [], [], x, vs, h, hc => by simpa [encs] using hc
  | [], c :: cs, x, vs, h, hc => by simp [decs] at h
  | l :: ls, [], x, vs, h, hc => by simp [decs] at h
  | l :: ls, c :: cs, x, vs, h, hc => by
    simp only [decs] at h
    cases hd : l.dec c with
    | none => simp [hd] at h
    | some y =>
      cases hds : decs ls cs with
      | none => simp [hd, hds] at h
      | some ys =>
        simp only [hd, hds, Option.bind_some, Option.some.injEq] at h
        subst h
        cases hc with
        | cons h1 h2 => exact .cons (dec_rel hd h1) (decs_rel hds h2)
theorem decs_length : ∀ {ls : List Leaf} {cs : List C} {x : Tup ls}, decs ls cs = some x → cs.length = ls.length
  | [], [], x, h => rfl
  | [], c :: cs, x, h => by simp [decs] at h
  | l :: ls, [], x, h => by simp [decs] at h
  | l :: ls, c :: cs, x, h => by
    simp only [decs] at h
    cases hd : l.dec c with
    | none => simp [hd] at h
    | some y =>
      cases hds : decs ls cs with
      | none => simp [hd, hds] at h
      | some ys => simp [decs_length hds]
theorem encs_length : ∀ (ls : List Leaf) (x : Tup ls), (encs ls x).length = ls.length
  | [], _ => rfl
  | l :: ls, x => by simp [encs, encs_length ls x.2]
theorem nth_get {α : Type} : ∀ (l : List α) (i : Nat), nth l i = l[i]?
  | [], i => by simp [nth]
  | x :: l, 0 => by simp [nth]
  | x :: l, i + 1 => by simp [nth, nth_get l i]

section
variable {P : Program} {hs : Hints} {call : Oracle} {N : Nat} {st : St} {a : Act} {w : World} {S : Addr → Prop} {φ : Place} {o : Oper} {lg : List Nat} {r : Eff × List Nat}

/-! ### Loads -/
/-- Cells from an address on, with what they hold. -/
def Held (w : World) (b : Addr) (vs : List Value) : Prop := ∀ (j : Nat) v, vs[j]? = some v → w.cell? (b.add j) = some v
theorem run_loadVar_agg {t : TypeId} {d : TypeDesc} (hu : P.underlying t = some d) (ha : isAggT P t = true) {b : Addr} {vs : List Value} (hl : vs.length = P.cellsOf t) (hh : Held w b vs) : (loadVar t b).run P w = .ok (.agg vs.toArray) w := by
  unfold loadVar
  simp only [Sem.run_bind, run_isAggT hu, Result.andThen_ok, ha, if_true, run_sizeT hu, ← hl]
  rw [run_loadCells_list w b vs hh]
  rfl
theorem run_loadVar_one {t : TypeId} {d : TypeDesc} (hu : P.underlying t = some d) (ha : isAggT P t = false) {b : Addr} {v : Value} (hh : w.cell? b = some v) : (loadVar t b).run P w = .ok v w := by
  unfold loadVar
  simp [run_isAggT hu, ha, hh]
theorem load_ldD {lit : Bool} {t : TypeId} {e : List D} {off : Nat} (h : (ldD P lit t e off fun x => pureM x).val call st.H st.Z lg = some r) {b : Addr} {cv : Nat → Value}
    (hc : ∀ (j : Nat) d, e[j]? = some d → w.cell? (b.add j) = some (cv j) ∧ RelD w S d (cv j)) : ∃ x u, r.1 = { v := x } ∧ (loadVar t (b.add off)).run P w = .ok u w ∧ RelV w S st.H φ x u := by
  unfold ldD at h
  split at h
  · rename_i ls hls
    obtain ⟨d, hu⟩ := leaves_under hls
    replace h := val_and h
    obtain ⟨hn, h⟩ := h
    have hn := beq_iff.1 hn
    have cells : ∀ n, (sub e off n).length = n → Held w (b.add off) ((List.range n).map fun j => cv (off + j)) ∧ F2 (RelC w S st.H φ) (sub e off n) ((List.range n).map fun j => cv (off + j)) := by
      intro n hlen
      have hlen' : off + n ≤ e.length ∨ n = 0 := by
        simp [sub] at hlen; omega
      constructor
      · intro j v hj
        have hjn : j < n := by
          have := (List.getElem?_eq_some_iff.1 hj).1; simpa using this
        have : j + off < e.length := by omega
        rw [Addr.add_add]
        simp [hjn] at hj
        rw [← hj]
        exact (hc (off + j) _ (List.getElem?_eq_getElem (by omega))).1
      · refine F2.of (by simp [hlen]) fun i c v hi hv => ?_
        have hin : i < n := by
          have := (List.getElem?_eq_some_iff.1 hv).1; simpa using this
        simp [hin] at hv
        subst hv
        simp only [sub, List.getElem?_map, List.getElem?_take, List.getElem?_drop] at hi
        split at hi
        · cases he : e[off + i]? with
          | none => simp [he] at hi
          | some d =>
            simp [he] at hi; subst hi
            exact .d _ _ (hc _ _ he).2
        · omega
    rcases val_bif h with ⟨ha, h⟩ | ⟨ha, h⟩
    · obtain ⟨x, hx, h⟩ := val_opt h
      obtain ⟨h1, _⟩ := val_pure h
      obtain ⟨k1, k2⟩ := cells ls.length (decs_length hx)
      refine ⟨_, _, h1, run_loadVar_agg hu ha (by simp [hn]) k1, .agg _ _ (decs_rel hx k2)⟩
    · split at h
      · rename_i l
        obtain ⟨x, hx, h⟩ := val_opt h
        obtain ⟨h1, _⟩ := val_pure h
        obtain ⟨k1, k2⟩ := cells 1 (decs_length hx)
        have k3 := decs_rel hx k2
        cases k3 with
        | cons k4 _ =>
          refine ⟨_, _, h1, run_loadVar_one hu ha (k1 0 (cv (off + 0)) (by simp)), .c _ _ k4⟩
      · exact (val_fail h).elim
  · exact (val_fail h).elim
theorem load_good (hR : Rst N st a w S φ) {lit : Bool} {t : TypeId} {x : Operand} (ho : o.op = .load t x) (h : (loadM P lit t (ev st.F x)).val call st.H st.Z lg = some r) : Good P o st a w S φ r.1 := by
  have rx := hR.ev x
  unfold loadM at h
  split at h
  · rename_i n off hb
    rw [hb] at rx
    generalize hu : a.eval x = u at rx
    obtain ⟨ob, hf, h⟩ := val_look h
    cases rx.inv_c with
    | ptr _ _ cs b hf' hb' =>
      rw [hf] at hf'; injection hf' with hf'; subst hf'
      simp only at h
      replace h := val_and h
      obtain ⟨hok, h⟩ := h
      obtain ⟨d, hd⟩ := okT_under hok
      obtain ⟨b', vs, ty, k1, k2, k3⟩ := hR.inv.objs n _ hf
      rw [hb'] at k1; injection k1 with k1; subst k1
      have hcell : ∀ (j : Nat) v, vs[j]? = some v → w.cell? ((⟨b', 0, none⟩ : Addr).add j) = some v := by
        intro j v hj
        rw [cell_heap (b := ⟨b', 0, none⟩) rfl k2]; simpa using hj
      have hexec : (execOp a.eval o).run P w = ((loadVar t ((⟨b', 0, none⟩ : Addr).add off)).run P w).andThen fun v w' => .ok (.value v) w' := by
        simp [execOp, ho, hu, Instr.loadAt, Instr.sureAddr]
      rcases val_bif h with ⟨ha, h⟩ | ⟨ha, h⟩
      · replace h := val_and h
        obtain ⟨hl, h⟩ := h
        have hl := Nat.le_of_ble_eq_true hl
        obtain ⟨h1, _⟩ := val_pure h
        rw [h1]
        refine good_pure hR (u := .agg ((vs.drop off).take (P.cellsOf t)).toArray) ?_ (.agg _ _ ((k3.drop off).take _))
        rw [hexec, run_loadVar_agg hd ha (vs := (vs.drop off).take (P.cellsOf t)) (by rw [k3.length] at hl; simp; omega) (by
          intro j v hj
          rw [Addr.add_add]
          simp only [List.getElem?_take, List.getElem?_drop] at hj
          split at hj
          · exact hcell _ _ hj
          · cases hj)]
        rfl
      · split at h
        · rename_i c hn
          rw [nth_get] at hn
          obtain ⟨h1, _⟩ := val_pure h
          rw [h1]
          obtain ⟨v, hv, hr⟩ := k3.get hn
          refine good_pure hR (u := v) ?_ (.c _ _ hr)
          rw [hexec, run_loadVar_one hd ha (hcell _ _ hv)]
          rfl
        · exact (val_fail h).elim
  · rename_i n ver i off hb
    rw [hb] at rx
    generalize hu : a.eval x = u at rx
    obtain ⟨ob, hf, h⟩ := val_look h
    cases rx.inv_c with
    | eptr _ _ _ _ sz xs ver' ex ad hf' hv hh =>
      rw [hf] at hf'; injection hf' with hf'; subst hf'
      simp only at h
      replace h := val_and h
      obtain ⟨hvv, h⟩ := h
      have hvv := beq_iff.1 hvv
      obtain ⟨hi, b, hb2, rfl⟩ := hh hvv.symm
      obtain ⟨e, he, h⟩ := val_opt h
      obtain ⟨_, _, g3, g4⟩ := hR.inv.objs n _ hf
      rcases g4 with g4 | ⟨b', cells, ty, fz, k1, k2, k3, k4, k5, k6⟩
      · rw [hb2] at g4; cases g4.1
      · rw [hb2] at k1; injection k1 with k1; subst k1
        obtain ⟨y, u, h1, hrun, hrel⟩ := load_ldD (P := P) (w := w) (S := S) (φ := φ) h (b := b.add (i * sz)) (cv := fun j => cells.getD (b.off + (i * sz + j)) undef) (by
          intro j d hj
          obtain ⟨v, k7, k8⟩ := k6 i j e d he hj
          rw [Addr.add_add, cell_heap k2 k3]
          have : cells.getD (b.off + (i * sz + j)) undef = v := by rw [Array.getD_eq_getD_getElem?, k7]; rfl
          rw [this]; exact ⟨k7, k8⟩)
        rw [h1]
        rw [Addr.add_add] at hrun
        refine good_pure hR ?_ hrel
        simp [execOp, ho, hu, Instr.loadAt, Instr.sureAddr, hrun]
  · rename_i e off hb
    rw [hb] at rx
    generalize hu : a.eval x = u at rx
    cases rx.inv_c with
    | dptr _ _ b cv hh =>
      obtain ⟨y, u, h1, hrun, hrel⟩ := load_ldD (P := P) (w := w) (S := S) (φ := φ) h (b := b) (cv := cv) (fun j d hj => ⟨(hh j d hj).2.1, (hh j d hj).2.2⟩)
      rw [h1]
      refine good_pure hR ?_ hrel
      simp [execOp, ho, hu, Instr.loadAt, Instr.sureAddr, hrun]
  · exact (val_fail h).elim

/-! ### Parts -/
theorem offP_spec {t : TypeId} {f o' : Nat} {ft : TypeId} (h : offP P t f = some (o', ft)) : ∃ fs fd, P.underlying t = some (.struct fs) ∧ fs[f]? = some fd ∧ fd.offset = o' ∧ fd.type = ft ∧ P.cellsOf ft ≠ 0 := by
  unfold offP at h
  split at h
  · rename_i fs hu
    rw [nth_get] at h
    cases hn : fs.toList[f]? with
    | none => simp [hn] at h
    | some fd =>
      simp only [hn, Option.bind_some] at h
      cases hb : Nat.beq (P.cellsOf fd.type) 0 with
      | true => simp [hb] at h
      | false =>
        simp only [hb, cond_false, Option.some.injEq, Prod.mk.injEq] at h
        obtain ⟨h1, h2⟩ := h
        refine ⟨fs, fd, hu, by simpa using hn, h1, h2, ?_⟩
        rw [← h2]; intro h0; rw [h0] at hb; cases hb
  · cases h
theorem run_fieldAt {t : TypeId} {f : Nat} {o' : Nat} {ft : TypeId} (h : offP P t f = some (o', ft)) (b : Addr) : (Instr.fieldAt t (.pointer (some b)) f).run P w = .ok (.pointer (some (b.add o'))) w := by
  obtain ⟨fs, fd, hu, hf, h1, h2, h3⟩ := offP_spec h
  have hinfo : ∃ i, P.info? ft = some i := by
    cases hi : P.info? ft with
    | none => simp [Program.cellsOf, hi] at h3
    | some i => exact ⟨i, rfl⟩
  obtain ⟨i, hi⟩ := hinfo
  unfold Instr.fieldAt fieldPlace
  simp [run_underlying hu, hf, Instr.sureAddr, h2, h1, run_sizeOf w hi, h3]
theorem fieldAddr_good (hR : Rst N st a w S φ) {t : TypeId} {x : Operand} {f : Nat} (ho : o.op = .fieldAddr t x f) (h : (fieldAddrM P t (ev st.F x) f).val call st.H st.Z lg = some r) : Good P o st a w S φ r.1 := by
  have rx := hR.ev x
  unfold fieldAddrM at h
  split at h
  · rename_i o' ft hoff
    have hexec : ∀ b, a.eval x = .pointer (some b) → (execOp a.eval o).run P w = .ok (.value (.pointer (some (b.add o')))) w := by
      intro b hb
      simp [execOp, ho, hb, run_fieldAt hoff]
    split at h
    · rename_i n off hb
      rw [hb] at rx
      generalize hu : a.eval x = u at rx
      obtain ⟨h1, _⟩ := val_pure h
      rw [h1]
      cases rx.inv_c with
      | ptr _ _ cs b hf hb' =>
        refine good_pure hR (hexec _ hu) (.c _ _ ?_)
        rw [Addr.add_add]; exact .ptr n _ cs b hf hb'
    · rename_i n ver i off hb
      rw [hb] at rx
      generalize hu : a.eval x = u at rx
      obtain ⟨h1, _⟩ := val_pure h
      rw [h1]
      cases rx.inv_c with
      | eptr _ _ _ _ sz xs ver' ex ad hf hv hh =>
        refine good_pure hR (hexec _ hu) (.c _ _ (.eptr n ver i _ sz xs ver' ex _ hf hv fun e => ?_))
        obtain ⟨k1, b, k2, rfl⟩ := hh e
        exact ⟨k1, b, k2, by rw [Addr.add_add, Nat.add_assoc]⟩
    · rename_i e off hb
      rw [hb] at rx
      generalize hu : a.eval x = u at rx
      obtain ⟨h1, _⟩ := val_pure h
      rw [h1]
      cases rx.inv_c with
      | dptr _ _ b cv hh =>
        refine good_pure hR (hexec _ hu) (.c _ _ ?_)
        rw [Addr.add_add]; exact .dptr e _ b cv hh
    · exact (val_fail h).elim
  · exact (val_fail h).elim
theorem run_part_agg {t : TypeId} {d : TypeDesc} (hu : P.underlying t = some d) (ha : isAggT P t = true) (vs : Array Value) (off : Nat) : (part t vs off).run P w = .ok (.agg (vs.extract off (off + P.cellsOf t))) w := by
  unfold part
  simp [run_isAggT hu, ha, run_sizeT hu]
theorem run_part_one {t : TypeId} {d : TypeDesc} (hu : P.underlying t = some d) (ha : isAggT P t = false) {vs : Array Value} {off : Nat} {v : Value} (hv : vs[off]? = some v) : (part t vs off).run P w = .ok v w := by
  unfold part
  simp [run_isAggT hu, ha, hv]
theorem field_good (hR : Rst N st a w S φ) {t : TypeId} {x : Operand} {f : Nat} (ho : o.op = .field t x f) (h : (fieldM P t (ev st.F x) f).val call st.H st.Z lg = some r) : Good P o st a w S φ r.1 := by
  have rx := hR.ev x
  unfold fieldM at h
  split at h
  · rename_i o' ft cs hoff hb
    rw [hb] at rx
    generalize hu : a.eval x = u at rx
    cases rx with
    | agg _ vs hh =>
      obtain ⟨fs, fd, hus, hf, h1, h2, h3⟩ := offP_spec hoff
      have hexec : (execOp a.eval o).run P w = ((part ft vs.toArray o').run P w).andThen fun v w' => .ok (.value v) w' := by
        simp [execOp, ho, hu, Instr.field, run_underlying hus, hf, asAgg, h1, h2]
      rcases val_bif h with ⟨_, h⟩ | ⟨hok, h⟩
      · exact (val_fail h).elim
      obtain ⟨d, hd⟩ := okT_under (P := P) (t := ft) (by simpa using hok)
      rcases val_bif h with ⟨ha, h⟩ | ⟨ha, h⟩
      · replace h := val_and h
        obtain ⟨hl, h⟩ := h
        obtain ⟨h1, _⟩ := val_pure h
        rw [h1]
        refine good_pure hR (u := .agg ((vs.drop o').take (P.cellsOf ft)).toArray) ?_ (.agg _ _ ((hh.drop o').take _))
        rw [hexec, run_part_agg hd ha]
        simp [List.extract_toArray, List.extract_eq_take_drop]
      · split at h
        · rename_i c hn
          rw [nth_get] at hn
          obtain ⟨h1, _⟩ := val_pure h
          rw [h1]
          obtain ⟨v, hv, hr⟩ := hh.get hn
          refine good_pure hR (u := v) ?_ (.c _ _ hr)
          rw [hexec, run_part_one hd ha (by simpa using hv)]
          rfl
        · exact (val_fail h).elim
  · exact (val_fail h).elim
end
end Go.Proofs.YtcpidokhkcmdfaaGreat.I

/-! The evaluator's operations against the model's: indexes, slices, conversions, lengths, structs by parts, structs compared. Conditions: those of each theorem. -/
namespace Go.Proofs.YtcpidokhkcmdfaaGreat.I
open Go
set_option linter.unusedVariables false
set_option linter.unusedSimpArgs false
section
variable {P : Program} {hs : Hints} {call : Oracle} {N : Nat} {st : St} {a : Act} {w : World} {S : Addr → Prop} {φ : Place} {o : Oper} {lg : List Nat} {r : Eff × List Nat}

theorem getElem_str (s : List UInt8) (n : Nat) : (ByteArray.mk s.toArray)[n]? = s[n]? := by
  by_cases h : n < s.length
  · rw [ByteArray.getElem?_lt' _ _ (by rw [size_str]; exact h), List.getElem?_eq_getElem h]
    simp [ByteArray.getElem_eq_getElem_data]
  · rw [ByteArray.getElem?_ge' _ _ (by rw [size_str]; exact h), List.getElem?_eq_none (by omega)]
theorem index_good (hR : Rst N st a w S φ) {t : TypeId} {x i : Operand} (ho : o.op = .index t x i) (h : (indexM P t (ev st.F x) (ev st.F i)).val call st.H st.Z lg = some r) : Good P o st a w S φ r.1 := by
  have rx := hR.ev x
  have ri := hR.ev i
  unfold indexM at h
  split at h
  · rename_i s k n hu hx hi
    rw [hx] at rx; rw [hi] at ri
    have rx := rx.inv_d.inv_str
    have ri := ri.inv_d.inv_int
    obtain ⟨b, hb, h⟩ := val_opt h
    obtain ⟨h1, _⟩ := val_pure h
    rw [h1]
    unfold bt at hb
    split at hb
    · rename_i h0
      cases hg : s[n.toNat]? with
      | none => simp [hg] at hb
      | some c =>
        simp [hg] at hb
        subst hb
        refine good_pure hR (u := .int .u8 c.toNat) ?_ (relInt _ _)
        simp only [execOp, ho, Instr.index, rx, ri, asIntOf, Sem.run_bind, Sem.run_pure, Result.andThen_ok, run_underlying hu, if_pos h0, getElem_str, hg]
    · cases hb
  · exact (val_fail h).elim
theorem slice_addr {w : World} {xs : List (List D)} {x0 : Option Addr} {cap sz : Nat} {cv : Nat → Nat → Value} {S : Addr → Prop} (hl : Lies w S xs x0 cap sz cv) {i : Nat} {e : List D} (he : xs[i]? = some e) :
    ∃ b, x0 = some b ∧ e.length = sz ∧ ∀ (j : Nat) d, e[j]? = some d → S ((b.add (i * sz)).add j) ∧ w.cell? ((b.add (i * sz)).add j) = some (cv i j) ∧ RelD w S d (cv i j) := by
  have hi : i < xs.length := (List.getElem?_eq_some_iff.1 he).1
  rcases hl.ha with h0 | ⟨b, hb, hh⟩
  · rw [h0] at hi; simp at hi
  · have hsz := hl.hs e (List.mem_of_getElem? he)
    refine ⟨b, hb, hsz, fun j d hj => ?_⟩
    have hj' : j < sz := by rw [← hsz]; exact (List.getElem?_eq_some_iff.1 hj).1
    rw [Addr.add_add]
    exact ⟨(hh i j hi hj').1, (hh i j hi hj').2, hl.h i j e d he hj⟩
theorem info_size {t : TypeId} (h : (P.info? t).isSome = true) (w : World) : (sizeOf t).run P w = .ok (P.cellsOf t) w := by
  obtain ⟨i, hi⟩ := Option.isSome_iff_exists.1 h
  exact run_sizeOf w hi
theorem indexAddr_good (hR : Rst N st a w S φ) {t : TypeId} {x i : Operand} (ho : o.op = .indexAddr t x i) (h : (indexAddrM P t (ev st.F x) (ev st.F i)).val call st.H st.Z lg = some r) : Good P o st a w S φ r.1 := by
  have rx := hR.ev x
  have ri := hR.ev i
  unfold indexAddrM at h
  split at h
  · rename_i el xs k n hu hx hi
    rw [hx] at rx; rw [hi] at ri
    have ri := ri.inv_d.inv_int
    generalize hux : a.eval x = u at rx
    obtain ⟨x0, cap, sz, cv, rfl, hl⟩ := rx.inv_d.inv_list
    replace h := val_and h
    obtain ⟨hinf, h⟩ := h
    obtain ⟨e, he, h⟩ := val_opt h
    obtain ⟨h1, _⟩ := val_pure h
    rw [h1]
    unfold ix at he
    split at he
    · rename_i h0
      cases hg : xs[n.toNat]? with
      | none => simp [hg] at he
      | some e' =>
        simp only [hg, Option.bind_some] at he
        split at he
        · rename_i hel
          injection he with he
          subst he
          obtain ⟨b, rfl, hsz, hc⟩ := slice_addr hl hg
          have hlt : n.toNat < xs.length := (List.getElem?_eq_some_iff.1 hg).1
          have hsz' : sz = P.cellsOf el := by rw [← hsz]; exact hel
          refine good_pure hR (u := .pointer (some (b.add (n.toNat * sz)))) ?_ (.c _ _ ?_)
          · have hn : n < (xs.length : Int) := by omega
            simp [execOp, ho, Instr.indexAt, hux, ri, asIntOf, run_underlying hu, h0, hn, info_size hinf, hsz']
          · exact .dptr e' 0 (b.add (n.toNat * sz)) (cv n.toNat) hc
        · cases he
    · cases he
  · rename_i el n ver k m hu hx hi
    rw [hx] at rx; rw [hi] at ri
    have ri := ri.inv_d.inv_int
    generalize hux : a.eval x = u at rx
    obtain ⟨ob, hf, h⟩ := val_look h
    cases rx.inv_c with
    | row _ _ sz xs ver' ex x0 len cap hf' hv hh =>
      rw [hf] at hf'; injection hf' with hf'; subst hf'
      simp only at h
      replace h := val_and h
      obtain ⟨hb, h⟩ := h
      obtain ⟨hb, hinf⟩ := and_t hb
      obtain ⟨hver, hsz⟩ := and_t hb
      have hver := beq_iff.1 hver
      have hsz := beq_iff.1 hsz
      obtain ⟨j, hj, h⟩ := val_opt h
      obtain ⟨h1, _⟩ := val_pure h
      rw [h1]
      unfold at_ at hj
      split at hj
      · rename_i h0
        injection hj with hj
        subst hj
        have hval := hh hver.symm
        injection hval with e1 e2 e3
        obtain ⟨_, g2, _, g4⟩ := hR.inv.objs n _ hf
        have hlt : m.toNat < xs.length := by omega
        rcases g4 with g4 | ⟨b, cells, ty, fz, k1, k2, k3, k4, k5, k6⟩
        · omega
        · refine good_pure hR (u := .pointer (some (b.add (m.toNat * sz)))) ?_ (.c _ _ ?_)
          · rw [k1] at e1
            subst e1 e2
            simp [execOp, ho, Instr.indexAt, hux, ri, asIntOf, run_underlying hu, h0, info_size hinf, hsz]
          · exact .eptr n ver m.toNat 0 sz xs ver' ex _ hf hv fun _ => ⟨hlt, b, k1, by simp⟩
      · cases hj
  · exact (val_fail h).elim

/-! ### Slices -/
theorem bound_lo {v : Option Operand} {l : Int} {d : Int} (hR : Rst N st a w S φ) (h : boundV (v.map (ev st.F)) d = some l) : (v = none ∧ l = d) ∨ ∃ k, v.map a.eval = some (.int k l) := by
  cases v with
  | none => simp [boundV] at h; exact .inl ⟨rfl, h.symm⟩
  | some x =>
    have rx := hR.ev x
    simp only [Option.map_some] at h ⊢
    unfold boundV at h
    split at h
    · rename_i h'; cases h'
    · rename_i kk i jj h'
      injection h' with h'
      rw [h'] at rx
      injection h with h
      subst h
      exact .inr ⟨_, by rw [rx.inv_d.inv_int]⟩
    · cases h
theorem run_bounds {isSl : Bool} {len cap : Nat} {lo hi : Option Value} {l h : Int} (hlo : (lo = none ∧ l = 0) ∨ ∃ k, lo = some (.int k l)) (hhi : (hi = none ∧ h = len) ∨ ∃ k, hi = some (.int k h)) (h0 : 0 ≤ l) (h1 : l ≤ h) (h2 : h ≤ len) (hc : len ≤ cap) :
    (Instr.sliceBounds isSl len cap lo hi none).run P w = .ok (l.toNat, h.toNat, cap) w := by
  have hcap : h ≤ (cap : Int) := by omega
  have h00 : 0 ≤ h := by omega
  have hlh : l ≤ (h.toNat : Int) := by omega
  rcases hlo with ⟨rfl, rfl⟩ | ⟨k, rfl⟩ <;> rcases hhi with ⟨rfl, rfl⟩ | ⟨k', rfl⟩ <;>
    simp [Instr.sliceBounds, Instr.sliceBound, asIntOf, h0, h00, hcap, hlh, h1] <;> omega
theorem extract_str (s : List UInt8) (l h : Nat) (hl : h ≤ s.length) : (ByteArray.mk s.toArray).extract l h = ⟨((s.drop l).take (h - l)).toArray⟩ := by
  apply ByteArray.ext
  simp [ByteArray.data_extract, List.extract_eq_take_drop]
theorem subs_some {α : Type} {s : List α} {l h : Int} {r : List α} (hs : subs s l h = some r) : 0 ≤ l ∧ l ≤ h ∧ h ≤ s.length ∧ r = (s.drop l.toNat).take (h.toNat - l.toNat) := by
  unfold subs at hs
  split at hs
  · rename_i hh
    injection hs with hs
    exact ⟨hh.1, hh.2.1, hh.2.2, by rw [← hs]; congr 1; omega⟩
  · cases hs
theorem sliced {x0 : Option Addr} {cap sz : Nat} {cv : Nat → Nat → Value} {xs : List (List D)} (hl : Lies w S xs x0 cap sz cv) {el : TypeId} {l h : Nat} (hlh : l ≤ h) (hh : h ≤ xs.length) (hsz : h - l = 0 ∨ sz = P.cellsOf el) :
    RelD w S (.list ((xs.drop l).take (h - l))) (.slice (if cap = l then x0 else x0.map (·.add (l * P.cellsOf el))) (h - l) (cap - l)) := by
  have hlen : ((xs.drop l).take (h - l)).length = h - l := by simp; omega
  have hc := hl.hc
  have e : Value.slice (if cap = l then x0 else x0.map (·.add (l * P.cellsOf el))) (h - l) (cap - l) = .slice (if cap = l then x0 else x0.map (·.add (l * P.cellsOf el))) ((xs.drop l).take (h - l)).length (cap - l) := by rw [hlen]
  rw [e]
  have hget : ∀ (i : Nat) e, ((xs.drop l).take (h - l))[i]? = some e → xs[l + i]? = some e ∧ i < h - l := by
    intro i e hi
    simp only [List.getElem?_take, List.getElem?_drop] at hi
    split at hi
    · exact ⟨hi, by assumption⟩
    · cases hi
  refine .sl _ ((xs.drop l).take (h - l)) _ _ sz (fun i j => cv (l + i) j) (.inl rfl) (by omega) (fun e he => hl.hs e (List.mem_of_mem_drop (List.mem_of_mem_take he))) ?_ (fun i j e d hi hj => hl.h (l + i) j e d (hget i e hi).1 hj)
  rcases hl.ha with h0 | ⟨b, rfl, hb⟩
  · subst h0; exact .inl (by simp)
  · by_cases hz : h - l = 0
    · left; rw [hz]; simp
    · right
      have hne : ¬ cap = l := by omega
      have hsz := hsz.resolve_left hz
      refine ⟨b.add (l * P.cellsOf el), by simp [hne], fun i j hi hj => ?_⟩
      rw [Addr.add_add]
      have : l * P.cellsOf el + (i * sz + j) = (l + i) * sz + j := by rw [← hsz, Nat.add_mul]; omega
      rw [this]
      exact hb (l + i) j (by omega) hj
theorem slice_good (hR : Rst N st a w S φ) {t : TypeId} {x : Operand} {lo hi : Option Operand} (ho : o.op = .slice t x lo hi none) (h : (sliceM P t (ev st.F x) (lo.map (ev st.F)) (hi.map (ev st.F))).val call st.H st.Z lg = some r) : Good P o st a w S φ r.1 := by
  have rx := hR.ev x
  unfold sliceM at h
  split at h
  · rename_i s hu hx
    rw [hx] at rx
    have rx := rx.inv_d.inv_str
    split at h
    · rename_i l h' hlo hhi
      obtain ⟨r', hr, h⟩ := val_opt h
      obtain ⟨h1, _⟩ := val_pure h
      rw [h1]
      obtain ⟨k1, k2, k3, rfl⟩ := subs_some hr
      refine good_pure hR (u := .string ⟨((s.drop l.toNat).take (h'.toNat - l.toNat)).toArray⟩) ?_ (relStr _)
      have hb := run_bounds (P := P) (w := w) (isSl := false) (len := s.length) (cap := s.length) (lo := lo.map a.eval) (hi := hi.map a.eval) (l := l) (h := h')
        (by rcases bound_lo hR hlo with ⟨e1, e2⟩ | e
            · exact .inl ⟨by simp [e1], e2⟩
            · exact .inr e)
        (by rcases bound_lo hR hhi with ⟨e1, e2⟩ | e
            · exact .inl ⟨by simp [e1], e2⟩
            · exact .inr e) k1 k2 k3 (Nat.le_refl _)
      have hx' : ((ByteArray.mk s.toArray).extract l.toNat h'.toNat) = ⟨((s.drop l.toNat).take (h'.toNat - l.toNat)).toArray⟩ := extract_str s _ _ (by omega)
      simp [execOp, ho, Instr.sliceAt, run_underlying hu, Instr.slice, rx, size_str, hb, hx']
    · exact (val_fail h).elim
  · rename_i el xs hu hx
    rw [hx] at rx
    generalize hux : a.eval x = u at rx
    obtain ⟨x0, cap, sz, cv, rfl, hl⟩ := rx.inv_d.inv_list
    split at h
    · rename_i l h' hlo hhi
      replace h := val_and h
      obtain ⟨hinf, h⟩ := h
      obtain ⟨r', hr, h⟩ := val_opt h
      obtain ⟨h1, _⟩ := val_pure h
      rw [h1]
      unfold subz at hr
      split at hr
      · rename_i hall
        obtain ⟨k1, k2, k3, rfl⟩ := subs_some hr
        have hb := run_bounds (P := P) (w := w) (isSl := true) (len := xs.length) (cap := cap) (lo := lo.map a.eval) (hi := hi.map a.eval) (l := l) (h := h')
          (by rcases bound_lo hR hlo with ⟨e1, e2⟩ | e
              · exact .inl ⟨by simp [e1], e2⟩
              · exact .inr e)
          (by rcases bound_lo hR hhi with ⟨e1, e2⟩ | e
              · exact .inl ⟨by simp [e1], e2⟩
              · exact .inr e) k1 k2 k3 hl.hc
        have hrel := sliced hl (el := el) (l := l.toNat) (h := h'.toNat) (by omega) (by omega) (by
          cases xs with
          | nil => left; simp at k3; omega
          | cons y ys => right; rw [← hl.hs y (by simp)]; exact hall y (by simp))
        refine good_pure hR ?_ (.c _ _ (.d _ _ hrel))
        simp [execOp, ho, Instr.sliceAt, run_underlying hu, Instr.slice, hux, hb, info_size hinf]
      · cases hr
    · exact (val_fail h).elim
  · rename_i el n ver hu hx
    rw [hx] at rx
    generalize hux : a.eval x = u at rx
    obtain ⟨ob, hf, h⟩ := val_look h
    cases rx.inv_c with
    | row _ _ sz xs ver' ex x0 len cap hf' hv hh =>
      rw [hf] at hf'; injection hf' with hf'; subst hf'
      simp only at h
      replace h := val_and h
      obtain ⟨hb, h⟩ := h
      obtain ⟨hb, hinf⟩ := and_t hb
      obtain ⟨hver, hsz⟩ := and_t hb
      have hver := beq_iff.1 hver
      have hval := hh hver.symm
      obtain ⟨S', i1, i2, i3, _⟩ := hR.inv.freeze hf
      rw [← hval] at i3
      obtain ⟨x0', cap', sz', cv, he, hl⟩ := i3.inv_list
      injection he with e1 e2 e3
      subst e1 e2 e3
      split at h
      · rename_i l h' hlo hhi
        obtain ⟨r', hr, h⟩ := val_opt h
        have h1 := val_ret h
        subst h1
        unfold subz at hr
        split at hr
        · rename_i hall
          obtain ⟨k1, k2, k3, rfl⟩ := subs_some hr
          have hb := run_bounds (P := P) (w := w) (isSl := true) (len := xs.length) (cap := cap) (lo := lo.map a.eval) (hi := hi.map a.eval) (l := l) (h := h')
            (by rcases bound_lo hR hlo with ⟨e1, e2⟩ | e
                · exact .inl ⟨by simp [e1], e2⟩
                · exact .inr e)
            (by rcases bound_lo hR hhi with ⟨e1, e2⟩ | e
                · exact .inl ⟨by simp [e1], e2⟩
                · exact .inr e) k1 k2 k3 hl.hc
          have hrel := sliced hl (el := el) (l := l.toNat) (h := h'.toNat) (by omega) (by omega) (by
            cases xs with
            | nil => left; simp at k3; omega
            | cons y ys => right; rw [← hl.hs y (by simp)]; exact hall y (by simp))
          refine good_frz hR ?_ i1 i2 (.c _ _ (.d _ _ hrel))
          simp [execOp, ho, Instr.sliceAt, run_underlying hu, Instr.slice, hux, hb, info_size hinf]
        · cases hr
      · exact (val_fail h).elim
  · exact (val_fail h).elim

/-! ### Functions' values -/
theorem makeFunc_good (hR : Rst N st a w S φ) {fn : Fn} {first caps : Array Operand} (ho : o.op = .makeFunc fn first caps) (h : (makeFuncM fn (first.toList.map (ev st.F)) (caps.toList.map (ev st.F))).val call st.H st.Z lg = some r) : Good P o st a w S φ r.1 := by
  unfold makeFuncM at h
  split at h
  · rename_i f hfst
    split at h
    · rename_i cs hcs
      replace h := val_and h
      obtain ⟨_, h⟩ := h
      obtain ⟨h1, _⟩ := val_pure h
      rw [h1]
      have hf0 : first = #[] := by
        have : first.toList = [] := by simpa using hfst
        exact Array.toList_eq_nil_iff.1 this
      subst hf0
      refine good_pure hR (u := .func (.func f) #[] (caps.toList.map a.eval).toArray) (by
        have e : (caps.toList.map a.eval).toArray = caps.map a.eval := by apply Array.ext'; simp
        rw [e]; simp [execOp, ho, Instr.makeFunc]) (.c _ _ ?_)
      have key : ∀ (l : List Operand) cs, omap (fun v => match v with | V.c x => some x | _ => none) (l.map (ev st.F)) = some cs → F2 (RelC w S st.H φ) cs (l.map a.eval) := by
        intro l
        induction l with
        | nil => intro cs h; simp only [List.map_nil, omap, Option.some.injEq] at h; subst h; exact .nil
        | cons x l ih =>
          intro cs h
          have rx := hR.ev x
          simp only [List.map_cons, omap] at h
          split at h
          · rename_i c hc
            cases hm : omap (fun v => match v with | V.c x => some x | _ => none) (l.map (ev st.F)) with
            | none => simp [hm] at h
            | some ds =>
              simp [hm] at h; subst h
              rw [hc] at rx
              exact .cons rx.inv_c (ih ds hm)
          · simp at h
      have k := key _ _ hcs
      refine .fn f cs _ k.length fun i c v hi hv => ?_
      obtain ⟨v', hv', hr⟩ := k.get hi
      rw [hv] at hv'; injection hv' with hv'; subst hv'
      exact hr
    · exact (val_fail h).elim
  · exact (val_fail h).elim

/-! ### Lengths, smallest and greatest -/
theorem run_callB {c : Call} {b : Builtin} {v : Value} {w' : World} (ho : o.op = .call c) (hc : c.callee = .builtin b)
    (hr : (builtin b c.argTypes o.type (c.args.map fun | .const _ => true | _ => false) (c.args.map a.eval)).run P w = .ok (.value v) w') : (execOp a.eval o).run P w = .ok (.value v) w' := by
  simp only [execOp, ho, resolve, hc, Sem.run_bind, Sem.run_pure, Result.andThen_ok, invoke]
  exact hr
theorem len_run {t : TypeId} {x : V} {u : Value} {ts : Array TypeId} {us : Array Value} {ty : TypeId} (ht : ts[0]? = some t) (hu : us[0]? = some u) (hi : Inv w S st.H st.Z φ) (hx : RelV w S st.H φ x u) (h : (lenM P t x).val call st.H st.Z lg = some r) :
    ∃ n, r.1 = { v := intV .i64 n } ∧ (Builtin.len_ ts ty us).run P w = .ok (.int .i64 n) w := by
  unfold lenM at h
  split at h
  · rename_i s hty
    obtain ⟨h1, _⟩ := val_pure h
    have := hx.inv_d.inv_str
    subst this
    exact ⟨_, h1, by simp [Builtin.len_, ht, hu, run_underlying hty, goInt, size_str]⟩
  · rename_i e xs hty
    obtain ⟨h1, _⟩ := val_pure h
    obtain ⟨x0, cap, sz, cv, rfl, hl⟩ := hx.inv_d.inv_list
    exact ⟨_, h1, by simp [Builtin.len_, ht, hu, run_underlying hty, goInt]⟩
  · rename_i e xs hty
    obtain ⟨h1, _⟩ := val_pure h
    obtain ⟨x0, sz, cv, rfl, hl⟩ := hx.inv_d.inv_lit
    exact ⟨_, h1, by simp [Builtin.len_, ht, hu, run_underlying hty, goInt]⟩
  · rename_i e hty
    obtain ⟨h1, _⟩ := val_pure h
    cases hx.inv_c
    exact ⟨_, h1, by simp [Builtin.len_, ht, hu, run_underlying hty, goInt]⟩
  · rename_i e n ver hty
    obtain ⟨ob, hf, h⟩ := val_look h
    cases hx.inv_c with
    | row _ _ sz xs ver' ex x0 len cap hf' hv hh =>
      rw [hf] at hf'; injection hf' with hf'; subst hf'
      simp only at h
      replace h := val_and h
      obtain ⟨hver, h⟩ := h
      have hver := beq_iff.1 hver
      obtain ⟨h1, _⟩ := val_pure h
      have hval := hh hver.symm
      injection hval with e1 e2 e3
      exact ⟨_, h1, by simp [Builtin.len_, ht, hu, run_underlying hty, goInt, e2]⟩
  · exact (val_fail h).elim
theorem min_fold {k : IntKind} : ∀ (vs : List V) (us : List Value) (n : Int) (v : V), F2 (RelV w S st.H φ) vs us → foldI mnv k n vs = some v → ∃ m, v = intV k m ∧ (us.foldlM Builtin.min2 (.int k n)).run P w = .ok (.int k m) w
  | [], us, n, v, hf, h => by
    cases hf
    simp only [foldI, Option.some.injEq] at h
    exact ⟨n, h.symm, by simp⟩
  | x :: vs, us, n, v, hf, h => by
    cases hf with
    | cons h1 h2 =>
      unfold foldI at h
      split at h
      · rename_i h'; cases h'
      · rename_i k' b r' h'
        injection h' with e1 e2
        subst e1 e2
        cases hk : kEq k k' with
        | false => simp [hk] at h
        | true =>
          have := kEq_iff.1 hk
          subst this
          simp only [hk, cond_true] at h
          have hb := h1.inv_d.inv_int
          subst hb
          obtain ⟨m, e1, e2⟩ := min_fold _ _ _ _ h2 h
          exact ⟨m, e1, by simp only [List.foldlM_cons, Builtin.min2, Sem.run_bind, Sem.run_pure, Result.andThen_ok]; exact e2⟩
      · cases h
theorem max_fold {k : IntKind} : ∀ (vs : List V) (us : List Value) (n : Int) (v : V), F2 (RelV w S st.H φ) vs us → foldI mxv k n vs = some v → ∃ m, v = intV k m ∧ (us.foldlM Builtin.max2 (.int k n)).run P w = .ok (.int k m) w
  | [], us, n, v, hf, h => by
    cases hf
    simp only [foldI, Option.some.injEq] at h
    exact ⟨n, h.symm, by simp⟩
  | x :: vs, us, n, v, hf, h => by
    cases hf with
    | cons h1 h2 =>
      unfold foldI at h
      split at h
      · rename_i h'; cases h'
      · rename_i k' b r' h'
        injection h' with e1 e2
        subst e1 e2
        cases hk : kEq k k' with
        | false => simp [hk] at h
        | true =>
          have := kEq_iff.1 hk
          subst this
          simp only [hk, cond_true] at h
          have hb := h1.inv_d.inv_int
          subst hb
          obtain ⟨m, e1, e2⟩ := max_fold _ _ _ _ h2 h
          exact ⟨m, e1, by simp only [List.foldlM_cons, Builtin.max2, Sem.run_bind, Sem.run_pure, Result.andThen_ok]; exact e2⟩
      · cases h
end
end Go.Proofs.YtcpidokhkcmdfaaGreat.I

/-! The evaluator's operations against the model's: those that make memory or write it. Conditions: those of each theorem. -/
namespace Go.Proofs.YtcpidokhkcmdfaaGreat.I
open Go
set_option linter.unusedVariables false
set_option linter.unusedSimpArgs false

/-! ### An object turns, or is new -/
def φset (φ : Place) (n : Nat) (p : Option Addr × Nat) : Place := fun m => if m = n then p else φ m
theorem φset_same (φ : Place) (n : Nat) (p : Option Addr × Nat) : φset φ n p n = p := by simp [φset]
theorem φset_other (φ : Place) {n m : Nat} (p : Option Addr × Nat) (h : m ≠ n) : φset φ n p m = φ m := by simp [φset, h]
theorem ObjOk.keep {w w' : World} {S S' : Addr → Prop} {H H' : List (Nat × O)} {φ φ' : Place} {n : Nat} {o : O} (h : ObjOk w S H φ n o) (hp : φ' n = φ n) (hle : Le w S w' S') (hh : HLe H φ H' φ')
    (hb : ∀ b, (φ n).1 = some b → w'.heap[b.block]? = w.heap[b.block]?) : ObjOk w' S' H' φ' n o := by
  cases o with
  | box cs =>
    obtain ⟨b, vs, t, h1, h2, h3⟩ := h
    exact ⟨b, vs, t, by rw [hp]; exact h1, (hb _ h1).trans h2, h3.mono fun _ _ h => h.mono hle hh⟩
  | row sz xs ver ex =>
    obtain ⟨g1, g2, g3, g4⟩ := h
    refine ⟨by rw [hp]; exact g1, by rw [hp]; exact g2, g3, ?_⟩
    rw [hp]
    rcases g4 with g4 | ⟨b, cells, t, fz, k1, k2, k3, k4, k5, k6⟩
    · exact .inl g4
    · refine .inr ⟨b, cells, t, fz, k1, k2, (hb _ k1).trans k3, k4, k5, fun i j e d hi hj => ?_⟩
      obtain ⟨v, k7, k8⟩ := k6 i j e d hi hj
      exact ⟨v, k7, k8.mono hle⟩
theorem Inv.change {w w' : World} {S : Addr → Prop} {H : List (Nat × O)} {Z : List Nat} {φ : Place} (hi : Inv w S H Z φ) {n : Nat} {o' : O} {p : Option Addr × Nat} (hos : w'.os = w.os) (htape : w'.tape = w.tape) (hout : w'.output = w.output)
    (hsize : w.heap.size ≤ w'.heap.size) (hk : ∀ k, k < w.heap.size → (∀ o b, find H n = some o → (φ n).1 = some b → b.block ≠ k) → w'.heap[k]? = w.heap[k]?) (hle : Le w S w' S)
    (hh : HLe H φ ((n, o') :: H) (φset φ n p)) (hok : ObjOk w' S ((n, o') :: H) (φset φ n p) n o')
    (hnew : ∀ b', p.1 = some b' → (∃ o b, find H n = some o ∧ (φ n).1 = some b ∧ b.block = b'.block) ∨ w.heap.size ≤ b'.block)
    (hsep : ∀ b' a, p.1 = some b' → S a → a.block = b'.block → ∃ sz xs ver ex, o' = .row sz xs ver ex ∧ n ∈ Z ∧ a.off < b'.off + xs.length * sz) :
    Inv w' S ((n, o') :: H) Z (φset φ n p) ∧ Step H φ w S ((n, o') :: H) (φset φ n p) w' S ∧ Fram H φ [n] w w' := by
  have hblk : ∀ m o b, m ≠ n → find H m = some o → (φ m).1 = some b → w'.heap[b.block]? = w.heap[b.block]? := fun m o b hm hf hb =>
    hk _ (hi.blocks _ ⟨m, o, b, hf, hb, rfl⟩) fun o' b' hf' hb' => hi.inj n m o' o b' b hf' hf (Ne.symm hm) hb' hb
  refine ⟨⟨fun m o hm => ?_, fun m k o1 o2 b c hm hk' hne hb hc => ?_, fun a ha => Nat.lt_of_lt_of_le (hi.alloc a ha) hsize, fun m o b a hm hb ha hab => ?_⟩, ⟨⟨hos, htape, hout, hsize, fun k hk1 hk2 => ?_, hle, fun a ha => .inl ha⟩, ?_⟩, fun m o b hm hb hn => hblk m o b (by simpa using hn) hm hb⟩
  · by_cases e : m = n
    · subst e
      rw [find_same] at hm; injection hm with hm; subst hm
      exact hok
    · rw [find_other _ _ (Ne.symm e)] at hm
      exact (hi.objs m o hm).keep (φset_other φ p e) hle hh fun b hb => hblk m o b e hm hb
  · have side : ∀ m o b c, m ≠ n → find H m = some o → (φ m).1 = some b → p.1 = some c → c.block ≠ b.block := fun m o b c hm hf hb hc e => by
      rcases hnew c hc with ⟨o3, b3, h1, h2, h3⟩ | h1
      · exact hi.inj n m o3 o b3 b h1 hf (Ne.symm hm) h2 hb (h3.trans e)
      · have := hi.blocks _ ⟨m, o, b, hf, hb, rfl⟩; omega
    by_cases e1 : m = n
    · subst e1
      rw [φset_same] at hb
      rw [find_other _ _ hne] at hk'
      rw [φset_other φ p (Ne.symm hne)] at hc
      exact side k o2 c b (Ne.symm hne) hk' hc hb
    · rw [find_other _ _ (Ne.symm e1)] at hm
      rw [φset_other φ p e1] at hb
      by_cases e2 : k = n
      · subst e2
        rw [φset_same] at hc
        exact Ne.symm (side m o1 b c e1 hm hb hc)
      · rw [find_other _ _ (Ne.symm e2)] at hk'
        rw [φset_other φ p e2] at hc
        exact hi.inj m k o1 o2 b c hm hk' hne hb hc
  · by_cases e : m = n
    · subst e
      rw [find_same] at hm; injection hm with hm; subst hm
      rw [φset_same] at hb
      exact hsep b a hb ha hab
    · rw [find_other _ _ (Ne.symm e)] at hm
      rw [φset_other φ p e] at hb
      exact hi.sep m o b a hm hb ha hab
  · exact hk k hk1 fun o b hf hb e => hk2 ⟨n, o, b, hf, hb, e⟩
  · rintro k ⟨m, o, b, hm, hb, rfl⟩
    by_cases e : m = n
    · subst e
      rw [φset_same] at hb
      rcases hnew b hb with ⟨o3, b3, h1, h2, h3⟩ | h1
      · exact .inl ⟨m, o3, b3, h1, h2, h3⟩
      · exact .inr h1
    · rw [find_other _ _ (Ne.symm e)] at hm
      rw [φset_other φ p e] at hb
      exact .inl ⟨m, o, b, hm, hb, rfl⟩
theorem HLe.new {H : List (Nat × O)} {φ : Place} {n : Nat} (h : find H n = none) (o : O) (p : Option Addr × Nat) : HLe H φ ((n, o) :: H) (φset φ n p) := by
  intro m o' hm
  have hne : m ≠ n := fun e => by subst e; rw [h] at hm; cases hm
  cases o' with
  | box cs => exact ⟨⟨cs, by rw [find_other _ _ (Ne.symm hne)]; exact hm⟩, by rw [φset_other φ p hne]⟩
  | row sz xs ver ex => exact ⟨xs, ver, ex, by rw [find_other _ _ (Ne.symm hne)]; exact hm, Nat.le_refl _, fun _ => ⟨rfl, by rw [φset_other φ p hne]⟩⟩
theorem heap_push_lt {h : Array Obj} {ob : Obj} {k : Nat} (hk : k < h.size) : (h.push ob)[k]? = h[k]? := by rw [Array.getElem?_push, if_neg (by omega)]
theorem heap_push_new {h : Array Obj} {ob : Obj} : (h.push ob)[h.size]? = some ob := by simp
/-- A new object. -/
theorem Inv.new {w w' : World} {S : Addr → Prop} {H : List (Nat × O)} {Z : List Nat} {φ : Place} (hi : Inv w S H Z φ) {n : Nat} (hn : find H n = none) (hos : w'.os = w.os) (htape : w'.tape = w.tape) (hout : w'.output = w.output) {ob : Obj} (hw : w'.heap = w.heap.push ob)
    {o : O} {cap : Nat} (hok : Le w S w' S → HLe H φ ((n, o) :: H) (φset φ n (some ⟨w.heap.size, 0, none⟩, cap)) → ObjOk w' S ((n, o) :: H) (φset φ n (some ⟨w.heap.size, 0, none⟩, cap)) n o) :
    ∃ φ', φ' = φset φ n (some ⟨w.heap.size, 0, none⟩, cap) ∧ Inv w' S ((n, o) :: H) Z φ' ∧ HLe H φ ((n, o) :: H) φ' ∧ Step H φ w S ((n, o) :: H) φ' w' S ∧ Fram H φ [] w w' := by
  have hle : Le w S w' S := fun a ha => ⟨ha, by
    have := hi.alloc a ha
    exact World.cell?_of_block (by rw [hw]; exact heap_push_lt this)⟩
  have hh := HLe.new (φ := φ) hn o (some ⟨w.heap.size, 0, none⟩, cap)
  obtain ⟨h1, h2⟩ := hi.change (n := n) (o' := o) (p := (some ⟨w.heap.size, 0, none⟩, cap)) hos htape hout (by rw [hw]; simp) (fun k hk _ => by rw [hw]; exact heap_push_lt hk) hle hh (hok hle hh)
    (fun b' hb' => .inr (by injection hb' with hb'; subst hb'; exact Nat.le_refl _))
    (fun b' a hb' ha hab => by
      injection hb' with hb'; subst hb'
      have := hi.alloc a ha
      simp at hab; omega)
  exact ⟨_, rfl, h1, hh, h2.1, fun m o b hm hb _ => by rw [hw]; exact heap_push_lt (hi.blocks _ ⟨m, o, b, hm, hb, rfl⟩)⟩

section
variable {P : Program} {hs : Hints} {call : Oracle} {N : Nat} {st : St} {a : Act} {w : World} {S : Addr → Prop} {φ : Place} {o : Oper} {lg : List Nat} {r : Eff × List Nat}

/-- An operation that makes one object, behind rows that are data from now on. -/
theorem good_new {d : Nat} (hd : o.dst = some d) {S1 : Addr → Prop} {fz : List Nat} (hi : Inv w S1 st.H (fz ++ st.Z) φ) (hf : Frz w st.H φ S S1) (hn : find st.H (loc d) = none) {w' : World} (hos : w'.os = w.os) (htape : w'.tape = w.tape) (hout : w'.output = w.output) {ob : Obj} (hw : w'.heap = w.heap.push ob)
    {ob' : O} {cap : Nat} {v : V} {u : Value} (hrun : (execOp a.eval o).run P w = .ok (.value u) w')
    (hok : Le w S1 w' S1 → HLe st.H φ ((loc d, ob') :: st.H) (φset φ (loc d) (some ⟨w.heap.size, 0, none⟩, cap)) → ObjOk w' S1 ((loc d, ob') :: st.H) (φset φ (loc d) (some ⟨w.heap.size, 0, none⟩, cap)) (loc d) ob')
    (hv : ∀ φ', φ' = φset φ (loc d) (some ⟨w.heap.size, 0, none⟩, cap) → RelV w' S1 ((loc d, ob') :: st.H) φ' v u) : Good P o st a w S φ { v := v, new := some ob', fz := fz } := by
  obtain ⟨φ', e, h1, h2, h3, h4⟩ := hi.new hn hos htape hout hw hok
  have eH : (st.upd o.dst { v := v, new := some ob', fz := fz }).H = (loc d, ob') :: st.H := by simp [St.upd, hd]
  have eZ : (st.upd o.dst { v := v, new := some ob', fz := fz }).Z = fz ++ st.Z := by simp [St.upd, hd]
  refine ⟨u, w', S1, φ', .inl hrun, ?_, ?_, ?_, ?_, h4⟩
  · rw [eH]; exact hv φ' e
  · rw [eH, eZ]; exact h1
  · rw [eH]; exact h2
  · rw [eH]; exact hf.step.trans h3
theorem newOk_some {H : List (Nat × O)} {d : Option Nat} {ob : O} (h : newOk H d (some ob) = true) : ∃ t, d = some t ∧ find H (loc t) = none := by
  cases d with
  | none => simp [newOk] at h
  | some t =>
    simp only [newOk] at h
    cases hf : find H (loc t) with
    | none => exact ⟨t, rfl, hf⟩
    | some x => simp [hf] at h
def meOf (o : Oper) : Nat := match o.dst with
  | some d => loc d
  | none => 0
theorem box_ok {w w' : World} {S1 : Addr → Prop} {H : List (Nat × O)} {n : Nat} {cs : List C} {vs : List Value} {t : TypeId} (hw : w'.heap = w.heap.push (.cells vs.toArray t)) (hc : F2 (RelC w S1 H φ) cs vs) :
    Le w S1 w' S1 → HLe H φ ((n, .box cs) :: H) (φset φ n (some ⟨w.heap.size, 0, none⟩, 0)) → ObjOk w' S1 ((n, .box cs) :: H) (φset φ n (some ⟨w.heap.size, 0, none⟩, 0)) n (.box cs) := fun hle hh =>
  ⟨w.heap.size, vs, t, by rw [φset_same], by rw [hw]; exact heap_push_new, hc.mono fun _ _ h => h.mono hle hh⟩
theorem zeroCells_spec {t : TypeId} {cs : List C} (h : zeroCells P t = some cs) : ∃ i z, P.info? t = some i ∧ i.zero = some z ∧ cs.length = P.cellsOf t ∧ ∀ (w : World) (S : Addr → Prop) H φ, F2 (RelC w S H φ) cs z.cells.toList := by
  unfold zeroCells at h
  cases hi : P.info? t with
  | none => rw [hi] at h; cases h
  | some i =>
    rw [hi] at h
    simp only [Option.bind_some] at h
    cases hz : i.zero with
    | none => rw [hz] at h; cases h
    | some z =>
      rw [hz] at h
      simp only at h
      cases hc : (ofValue z).cells with
      | none => rw [hc] at h; cases h
      | some ds =>
        rw [hc] at h
        simp only [Option.bind_some] at h
        cases hb : Nat.beq ds.length (P.cellsOf t) with
        | false => rw [hb] at h; cases h
        | true =>
          rw [hb] at h
          injection h with h
          subst h
          exact ⟨i, z, rfl, hz, beq_iff.1 hb, fun w S H φ => (ofValue_rel z).cells hc⟩
theorem alloc_good (hR : Rst N st a w S φ) {t : TypeId} (ho : o.op = .alloc t) (h : (allocM P (meOf o) t).val call st.H st.Z lg = some r) (hnew : newOk st.H o.dst r.1.new = true) : Good P o st a w S φ r.1 := by
  unfold allocM at h
  split at h
  · rename_i cs hcs
    have h1 := val_ret h
    subst h1
    obtain ⟨d, hd, hfr⟩ := newOk_some hnew
    obtain ⟨i, z, hi, hz, hl, hc⟩ := zeroCells_spec hcs
    have hme : meOf o = loc d := by simp [meOf, hd]
    have hc1 := hc w S st.H φ
    refine good_new (w := w) (S := S) (φ := φ) (fz := []) (w' := w.alloc (.cells z.cells t)) (ob := .cells z.cells.toList.toArray t) (cap := 0) (u := .pointer (some ⟨w.heap.size, 0, none⟩)) hd hR.inv (Frz.refl _ _ _ _) hfr rfl rfl rfl (by show w.heap.push _ = _; simp) ?_ ?_ ?_
    · simp [execOp, ho, Instr.alloc, zeroValue, typeInfo, hi, hz, newVar, newRow]
    · exact box_ok (t := t) (by show w.heap.push _ = _; simp) hc1
    · intro φ' e
      rw [hme]
      have := RelC.ptr (w := w.alloc (.cells z.cells t)) (S := S) (H := (loc d, .box cs) :: st.H) (φ := φ') (loc d) 0 cs ⟨w.heap.size, 0, none⟩ (find_same _ _ _) (by rw [e, φset_same])
      rw [show (⟨w.heap.size, 0, none⟩ : Addr).add 0 = ⟨w.heap.size, 0, none⟩ from rfl] at this
      exact .c _ _ this
  · exact (val_fail h).elim
theorem box_good (hR : Rst N st a w S φ) {t : TypeId} {x : Operand} (ho : o.op = .box t x) (h : (boxM (meOf o) (ev st.F x)).val call st.H st.Z lg = some r) (hnew : newOk st.H o.dst r.1.new = true) : Good P o st a w S φ r.1 := by
  have rx := hR.ev x
  unfold boxM at h
  split at h
  · rename_i cs hcs
    replace h := val_and h
    obtain ⟨_, h⟩ := h
    have h1 := val_ret h
    subst h1
    obtain ⟨d, hd, hfr⟩ := newOk_some hnew
    have hme : meOf o = loc d := by simp [meOf, hd]
    have hc1 := rx.cells hcs
    refine good_new (w := w) (S := S) (φ := φ) (fz := []) (w' := w.alloc (.cells (a.eval x).cells t)) (ob := .cells (a.eval x).cells.toList.toArray t) (cap := 0) (u := .pointer (some ⟨w.heap.size, 0, none⟩)) hd hR.inv (Frz.refl _ _ _ _) hfr rfl rfl rfl (by show w.heap.push _ = _; simp) ?_ ?_ ?_
    · simp [execOp, ho, Instr.box, newVar, newRow]
    · exact box_ok (t := t) (by show w.heap.push _ = _; simp) hc1
    · intro φ' e
      rw [hme]
      have := RelC.ptr (w := w.alloc (.cells (a.eval x).cells t)) (S := S) (H := (loc d, .box cs) :: st.H) (φ := φ') (loc d) 0 cs ⟨w.heap.size, 0, none⟩ (find_same _ _ _) (by rw [e, φset_same])
      rw [show (⟨w.heap.size, 0, none⟩ : Addr).add 0 = ⟨w.heap.size, 0, none⟩ from rfl] at this
      exact .c _ _ this
  · exact (val_fail h).elim

/-! ### Structs by parts -/
theorem foldl_set (cells : List Value) : ∀ (arr : Array Value) (off j : Nat), off + j + cells.length ≤ arr.size →
    ((cells.zipIdx j).foldl (fun cs (c, j) => cs.setIfInBounds (off + j) c) arr).toList = splice arr.toList (off + j) cells := by
  induction cells with
  | nil => intro arr off j h; simp [splice]
  | cons c cells ih =>
    intro arr off j h
    simp only [List.length_cons] at h
    simp only [List.zipIdx_cons, List.foldl_cons]
    rw [ih _ off (j + 1) (by simp; omega)]
    simp only [Array.toList_setIfInBounds]
    have key : ∀ (l : List Value) (n : Nat), n < l.length → splice (l.set n c) (n + 1) cells = splice l n (c :: cells) := by
      intro l
      induction l with
      | nil => intro n hn; simp at hn
      | cons y l ihl =>
        intro n hn
        cases n with
        | zero =>
          simp only [List.set_cons_zero, splice]
          cases cells with
          | nil => simp [splice]
          | cons z zs => simp [splice]
        | succ n =>
          simp only [List.set_cons_succ, splice]
          cases cells with
          | nil =>
            have := ihl n (by simpa using hn)
            simp only [splice] at this ⊢
            rw [← this]
          | cons z zs =>
            have := ihl n (by simpa using hn)
            simp only [splice]
            rw [← this]
    exact key arr.toList (off + j) (by simp; omega)
end
end Go.Proofs.YtcpidokhkcmdfaaGreat.I

/-! The evaluator's operations against the model's: structs and slices that are written out, made, converted. Conditions: those of each theorem. -/
namespace Go.Proofs.YtcpidokhkcmdfaaGreat.I
open Go
set_option linter.unusedVariables false
set_option linter.unusedSimpArgs false
section
variable {P : Program} {hs : Hints} {call : Oracle} {N : Nat} {st : St} {a : Act} {w : World} {S : Addr → Prop} {φ : Place} {o : Oper} {lg : List Nat} {r : Eff × List Nat}

/-! ### Structs by parts -/
theorem toArray_of {α : Type} {arr : Array α} {l : List α} (h : arr.toList = l) : arr = l.toArray := by rw [← h]
theorem fill_spec {fs : List Field} {places : Nat → Option (Nat × Nat)} (hp : ∀ i f, fs[i]? = some f → places i = some (f.offset, P.cellsOf f.type)) : ∀ (ps : List (Nat × Operand)) (cs cs' : List C) (vs : List Value), fillM P fs cs (ps.map (vpart (ev st.F))) = some cs' → F2 (RelC w S st.H φ) cs vs → Rst N st a w S φ →
    ∃ vs', Instr.fill places vs.toArray (ps.map fun (i, x) => (i, a.eval x)) = some vs'.toArray ∧ F2 (RelC w S st.H φ) cs' vs'
  | [], cs, cs', vs, h, hc, hR => by
    simp only [List.map_nil, fillM, Option.some.injEq] at h
    subst h
    exact ⟨vs, rfl, hc⟩
  | (i, x) :: ps, cs, cs', vs, h, hc, hR => by
    simp only [List.map_cons, vpart, fillM] at h
    have rx := hR.ev x
    split at h
    · rename_i f xs hn hx
      rw [nth_get] at hn
      cases hb : Nat.beq xs.length (P.cellsOf f.type) && Nat.ble (f.offset + xs.length) cs.length && xs.all C.keeps with
      | false => rw [hb] at h; cases h
      | true =>
        rw [hb] at h
        simp only [cond_true] at h
        obtain ⟨hb, _⟩ := and_t hb
        obtain ⟨h1, h2⟩ := and_t hb
        have h1 := beq_iff.1 h1
        have h2 := Nat.le_of_ble_eq_true h2
        have hxs := rx.cells hx
        obtain ⟨vs', k1, k2⟩ := fill_spec hp ps _ cs' (splice vs f.offset (a.eval x).cells.toList) h (hc.splice hxs f.offset) hR
        refine ⟨vs', ?_, k2⟩
        have hl := hc.length
        have hxl : (a.eval x).cells.size = xs.length := by have := hxs.length; simpa using this.symm
        simp only [List.map_cons, Instr.fill, hp i f hn]
        rw [if_neg (by simp; omega)]
        have e : ((a.eval x).cells.zipIdx.foldl (fun cs (c, j) => cs.setIfInBounds (f.offset + j) c) vs.toArray) = (splice vs f.offset (a.eval x).cells.toList).toArray := by
          apply toArray_of
          have := foldl_set (a.eval x).cells.toList vs.toArray f.offset 0 (by simp; omega)
          simp only [Nat.add_zero] at this
          rw [← this, ← Array.foldl_toList]
          simp
        rw [e]; exact k1
    · cases h
theorem places_run {fs : Array Field} (hi : ∀ f ∈ fs.toList, (P.info? f.type).isSome = true) : (fs.mapM fun f => do pure (f.offset, ← sizeOf f.type) : Sem (Array (Nat × Nat))).run P w = .ok (fs.map fun f => (f.offset, P.cellsOf f.type)) w := by
  rw [Array.mapM_eq_mapM_toList]
  have key : ∀ (l : List Field), (∀ f ∈ l, (P.info? f.type).isSome = true) → ((l.mapM fun f => do pure (f.offset, ← sizeOf f.type) : Sem (List (Nat × Nat)))).run P w = .ok (l.map fun f => (f.offset, P.cellsOf f.type)) w := by
    intro l
    induction l with
    | nil => intro _; simp
    | cons f l ih =>
      intro h
      simp only [List.mapM_cons, Sem.run_bind, info_size (h f (by simp)) w, Result.andThen_ok, Sem.run_pure, ih fun f hf => h f (by simp [hf]), List.map_cons]
  rw [Sem.run_map, key fs.toList hi]
  simp only [Result.andThen_ok]
  congr 1
  apply Array.ext'
  simp
theorem build_good (hR : Rst N st a w S φ) {t : TypeId} {ps : Array (Nat × Operand)} (ho : o.op = .build t ps) (h : (buildM P t (ps.toList.map (vpart (ev st.F)))).val call st.H st.Z lg = some r) : Good P o st a w S φ r.1 := by
  unfold buildM at h
  split at h
  · rename_i fs cs hu hz
    obtain ⟨hall, h⟩ := val_and h
    have hT : ∀ f ∈ fs.toList, (P.info? f.type).isSome = true := fun f hf => List.all_eq_true.1 hall f hf
    split at h
    · rename_i cs' hf
      obtain ⟨h1, _⟩ := val_pure h
      rw [h1]
      obtain ⟨i, z, hi, hzz, hl, hc⟩ := zeroCells_spec hz
      obtain ⟨vs', k1, k2⟩ := fill_spec (P := P) (fs := fs.toList) (places := ((fs.map fun f => (f.offset, P.cellsOf f.type))[·]?)) (w := w) (S := S) (φ := φ) (by
        intro i f hf
        have : fs[i]? = some f := by simpa using hf
        simp [this]) ps.toList cs cs' z.cells.toList hf (hc w S st.H φ) hR
      refine good_pure hR (u := .agg vs'.toArray) ?_ (.agg _ _ k2)
      have e : (ps.map fun (i, x) => (i, a.eval x)).toList = ps.toList.map fun (i, x) => (i, a.eval x) := by simp
      rw [← e] at k1
      rw [Array.toArray_toList] at k1
      simp only [execOp, ho, Instr.build, Sem.run_bind, zeroValue, typeInfo, run_program, Result.andThen_ok, hi, hzz, Sem.run_pure, run_underlying hu, places_run hT, k1]
    · exact (val_fail h).elim
  · exact (val_fail h).elim

/-! ### Slices that are written out -/
/-- A row's elements, one behind the other. -/
theorem flat_get {α : Type} {sz : Nat} : ∀ {es : List (List α)} {i j : Nat} {e : List α} {x : α}, (∀ e ∈ es, e.length = sz) → es[i]? = some e → e[j]? = some x → es.flatten[i * sz + j]? = some x
  | [], i, j, e, x, hs, hi, hj => by simp at hi
  | y :: es, 0, j, e, x, hs, hi, hj => by
    simp only [List.getElem?_cons_zero, Option.some.injEq] at hi
    subst hi
    have : j < y.length := (List.getElem?_eq_some_iff.1 hj).1
    simp only [List.flatten_cons, Nat.zero_mul, Nat.zero_add]
    rw [List.getElem?_append_left this]; exact hj
  | y :: es, i + 1, j, e, x, hs, hi, hj => by
    simp only [List.getElem?_cons_succ] at hi
    have hy : y.length = sz := hs y (by simp)
    simp only [List.flatten_cons]
    rw [List.getElem?_append_right (by rw [hy, Nat.add_mul]; omega)]
    have := flat_get (fun e he => hs e (by simp [he])) hi hj
    rw [← this]
    congr 1
    rw [hy, Nat.add_mul]; omega
theorem flat_length {α : Type} {sz : Nat} : ∀ {es : List (List α)}, (∀ e ∈ es, e.length = sz) → es.flatten.length = es.length * sz
  | [], _ => by simp
  | y :: es, hs => by
    have := flat_length (es := es) fun e he => hs e (by simp [he])
    simp [this, hs y (by simp), Nat.add_mul]; omega
/-- Elements and their cells, group by group. -/
def Rows (w : World) (S : Addr → Prop) (es : List (List D)) (vs : List (List Value)) : Prop := F2 (fun e v => F2 (RelD w S) e v) es vs
theorem Rows.mono {w w' : World} {S S' : Addr → Prop} (hle : Le w S w' S') {es : List (List D)} {vs : List (List Value)} (h : Rows w S es vs) : Rows w' S' es vs := F2.mono h fun _ _ h => h.mono fun _ _ h => h.mono hle
/-- A new row, its cells so, others behind them. -/
theorem row_ok {w w' : World} {S : Addr → Prop} {H' : List (Nat × O)} {φ : Place} {n sz cap : Nat} {es : List (List D)} {vs : List (List Value)} {rest : List Value} {t : TypeId} {fz : Nat × Nat} {ex : Bool} (hw : w'.heap[w.heap.size]? = some (.cells (vs.flatten ++ rest).toArray t fz))
    (hr : Rows w S es vs) (hs : ∀ e ∈ es, e.length = sz) (hex : ex = true → cap = es.length) (hcap : es.length ≤ cap) (hlen : rest.length + es.length * sz = cap * sz) (hfz : ∀ o, o < cap * sz → ¬ (fz.1 ≤ o ∧ o < fz.2)) (hle : Le w S w' S) :
    ObjOk w' S H' (φset φ n (some ⟨w.heap.size, 0, none⟩, cap)) n (.row sz es 0 ex) := by
  have hvs : ∀ v ∈ vs, v.length = sz := by
    intro v hv
    obtain ⟨i, hi⟩ := List.getElem?_of_mem hv
    have hl := F2.length hr
    have hii : i < es.length := by rw [hl]; exact (List.getElem?_eq_some_iff.1 hi).1
    obtain ⟨v', hv', hrel⟩ := F2.get hr (List.getElem?_eq_getElem hii)
    rw [hi] at hv'; injection hv' with hv'; subst hv'
    rw [← hrel.length]; exact hs _ (List.getElem_mem hii)
  have hfl := flat_length hvs
  have hel := F2.length hr
  refine ⟨by rw [φset_same]; exact hex, by rw [φset_same]; exact hcap, hs, .inr ⟨⟨w.heap.size, 0, none⟩, _, t, fz, by rw [φset_same], rfl, hw, ?_, ?_, ?_⟩⟩
  · rw [φset_same]; simp only [List.size_toArray, List.length_append, hfl, ← hel]; omega
  · intro o ho
    simp only [List.size_toArray, List.length_append, hfl, ← hel] at ho
    exact hfz o (by omega)
  · intro i j e d hi hj
    obtain ⟨v, hv, hrel⟩ := F2.get hr hi
    obtain ⟨u, hu, hrd⟩ := hrel.get hj
    refine ⟨u, ?_, hrd.mono hle⟩
    have h1 := flat_get hvs hv hu
    have h2 : i * sz + j < vs.flatten.length := (List.getElem?_eq_some_iff.1 h1).1
    simp only [Nat.zero_add, List.getElem?_toArray]
    rw [List.getElem?_append_left h2]; exact h1
theorem elems_sound {lit : Bool} {sz : Nat} {k : List (List D) → List Nat → M Eff} : ∀ {ps : List (Nat × Operand)} {i : Nat} {fz lg : List Nat}, (elemsM lit sz i (ps.map (vpart (ev st.F))) fz k).val call st.H st.Z lg = some r →
    ∃ es fz' lg', (k es fz').val call st.H st.Z lg' = some r ∧ (∀ e ∈ es, e.length = sz) ∧ ps.map (·.1) = List.range' i ps.length ∧ es.length = ps.length ∧ ∀ (S : Addr → Prop), (∀ x, RelV w S st.H φ (ev st.F x) (a.eval x)) → Inv w S st.H (fz ++ st.Z) φ →
      ∃ S', Inv w S' st.H (fz' ++ st.Z) φ ∧ Frz w st.H φ S S' ∧ Rows w S' es (ps.map fun p => (a.eval p.2).cells.toList)
  | [], i, fz, lg, h => ⟨[], fz, lg, h, by simp, by simp, rfl, fun S hR hi => ⟨S, hi, Frz.refl _ _ _ _, .nil⟩⟩
  | (j, x) :: ps, i, fz, lg, h => by
    simp only [List.map_cons, vpart, elemsM] at h
    split at h
    · rename_i xs hx
      replace h := val_and h
      obtain ⟨hb, h⟩ := h
      obtain ⟨h1, h2⟩ := and_t hb
      have h1 := beq_iff.1 h1
      have h2 := beq_iff.1 h2
      subst h1
      obtain ⟨ds, fz1, lg1, h3, hds, hs1⟩ := toDs_sound h
      obtain ⟨es, fz2, lg2, h4, h5, h6, h7, hs2⟩ := elems_sound (ps := ps) h3
      refine ⟨ds :: es, fz2, lg2, h4, ?_, by simp [h6, List.range'_succ], by simp [h7], fun S hR hi => ?_⟩
      · intro e he
        rcases List.mem_cons.1 he with rfl | he
        · rw [hds, h2]
        · exact h5 e he
      · obtain ⟨S1, i1, f1, r1⟩ := hs1 w S φ (a.eval x).cells.toList hi ((hR x).cells hx)
        obtain ⟨S2, i2, f2, r2⟩ := hs2 S1 (fun x => (hR x).mono f1.le (HLe.refl _ _)) i1
        exact ⟨S2, i2, f1.trans f2, .cons (r1.mono fun _ _ h => h.mono f2.le) r2⟩
    · exact (val_fail h).elim
theorem flat_splice (done : List Value) : ∀ (v rest : List Value), splice (done ++ rest) done.length v = done ++ (splice rest 0 v) := by
  induction done with
  | nil => intro v rest; rfl
  | cons x done ih =>
    intro v rest
    cases v with
    | nil =>
      have h1 : ∀ (l : List Value) n, splice l n [] = l := fun l n => by cases l <;> cases n <;> rfl
      rw [h1, h1]
    | cons y v => simp only [List.cons_append, List.length_cons, splice]; rw [ih]
theorem splice_zero : ∀ (v rest : List Value), v.length ≤ rest.length → splice rest 0 v = v ++ rest.drop v.length
  | [], rest, h => by cases rest <;> simp [splice]
  | y :: v, [], h => by simp at h
  | y :: v, z :: rest, h => by simp only [splice, List.cons_append, List.length_cons, List.drop_succ_cons]; rw [splice_zero v rest (by simpa using h)]
/-- A slice's parts, all of them, in order. -/
theorem fill_slice {sz : Nat} : ∀ (vs : List (Nat × Value)) (i : Nat) (done rest : List Value), (∀ p ∈ vs, p.2.cells.size = sz) → vs.map (·.1) = List.range' i vs.length → done.length = i * sz → rest.length = vs.length * sz →
    Instr.fill (fun i => some (i * sz, sz)) (done ++ rest).toArray vs = some (done ++ (vs.map fun p => p.2.cells.toList).flatten).toArray
  | [], i, done, rest, hs, hi, hd, hr => by
    have : rest = [] := List.eq_nil_of_length_eq_zero (by simpa using hr)
    simp [Instr.fill, this]
  | (j, v) :: vs, i, done, rest, hs, hi, hd, hr => by
    simp only [List.map_cons, List.length_cons, List.range'_succ, List.cons.injEq] at hi
    obtain ⟨rfl, hi⟩ := hi
    have hv : v.cells.size = sz := hs (j, v) (by simp)
    have hr' : rest.length = sz + vs.length * sz := by rw [hr]; simp [Nat.add_mul]; omega
    simp only [Instr.fill]
    rw [if_neg (by simp [hv]; omega)]
    have e : (v.cells.zipIdx.foldl (fun cs (c, k) => cs.setIfInBounds (j * sz + k) c) (done ++ rest).toArray) = ((done ++ v.cells.toList) ++ rest.drop sz).toArray := by
      apply toArray_of
      have := foldl_set v.cells.toList (done ++ rest).toArray (j * sz) 0 (by simp; omega)
      simp only [Nat.add_zero] at this
      rw [← hd, flat_splice, splice_zero _ _ (by simp; omega)] at this
      rw [← hd]
      have e2 : List.drop v.cells.toList.length rest = rest.drop sz := by simp [hv]
      rw [e2] at this
      rw [List.append_assoc, ← this, ← Array.foldl_toList]
      simp
    rw [e, fill_slice vs (j + 1) (done ++ v.cells.toList) (rest.drop sz) (fun p hp => hs p (by simp [hp])) hi (by simp [hd, hv, Nat.add_mul]) (by simp; omega)]
    simp
theorem fz_mono {S' : Addr → Prop} (h : Frz w st.H φ S S') : ∀ x, RelV w S st.H φ (ev st.F x) (a.eval x) → RelV w S' st.H φ (ev st.F x) (a.eval x) := fun x hx => hx.mono h.le (HLe.refl _ _)
theorem buildSlice_good (hR : Rst N st a w S φ) {lit : Bool} {t : TypeId} {n : Nat} {ps : Array (Nat × Operand)} (ho : o.op = .buildSlice t n ps) (h : (buildSliceM P lit (meOf o) t n (ps.toList.map (vpart (ev st.F)))).val call st.H st.Z lg = some r) (hnew : newOk st.H o.dst r.1.new = true) : Good P o st a w S φ r.1 := by
  unfold buildSliceM at h
  split at h
  · rename_i e hu
    replace h := val_and h
    obtain ⟨hb, h⟩ := h
    obtain ⟨hb, hinf⟩ := and_t hb
    obtain ⟨hb, hz⟩ := and_t hb
    obtain ⟨hn, hbig⟩ := and_t hb
    have hn := beq_iff.1 hn
    have hbig := Nat.le_of_ble_eq_true hbig
    simp only [List.length_map, Array.length_toList] at hn
    obtain ⟨es, fz, lg', h3, h4, h5, h6, hs⟩ := elems_sound (w := w) (φ := φ) (a := a) h
    have h1 := val_ret h3
    subst h1
    obtain ⟨d, hd, hfr⟩ := newOk_some hnew
    have hme : meOf o = loc d := by simp [meOf, hd]
    obtain ⟨S1, i1, f1, hrows⟩ := hs S hR.ev hR.inv
    have hlen : es.length = n := by rw [h6]; simpa using hn
    have hsizes : ∀ p ∈ ps.toList, (a.eval p.2).cells.size = P.cellsOf e := by
      intro p hp
      obtain ⟨i, hi⟩ := List.getElem?_of_mem hp
      have hil : i < es.length := by rw [h6]; exact (List.getElem?_eq_some_iff.1 hi).1
      obtain ⟨v, hv, hrel⟩ := F2.get hrows (List.getElem?_eq_getElem hil)
      simp [hi] at hv
      subst hv
      have := hrel.length
      rw [h4 _ (List.getElem_mem hil)] at this
      simpa using this.symm
    let cells := (ps.toList.map fun p => (a.eval p.2).cells.toList).flatten
    have hcl : cells.length = n * P.cellsOf e := by
      have := flat_length (es := ps.toList.map fun p => (a.eval p.2).cells.toList) (sz := P.cellsOf e) (by
        intro e he
        simp only [List.mem_map] at he
        obtain ⟨p, hp, rfl⟩ := he
        simpa using hsizes p hp)
      simp only [cells, this, List.length_map]
      rw [show ps.toList.length = n by simpa using hn]
    have hrun : (execOp a.eval o).run P w = .ok (.value (.slice (some ⟨w.heap.size, 0, none⟩) n n)) (w.alloc (.cells cells.toArray e)) := by
      have hpl : (ps.map fun (i, x) => (i, a.eval x)).toList = ps.toList.map fun p => (p.1, a.eval p.2) := by simp
      have hfill : ∀ zs : List Value, zs.length = n * P.cellsOf e → Instr.fill (fun i => some (i * P.cellsOf e, P.cellsOf e)) zs.toArray (ps.toList.map fun p => (p.1, a.eval p.2)) = some cells.toArray := by
        intro zs hzs
        have := fill_slice (sz := P.cellsOf e) (ps.toList.map fun p => (p.1, a.eval p.2)) 0 [] zs (by
          intro p hp
          simp only [List.mem_map] at hp
          obtain ⟨q, hq, rfl⟩ := hp
          exact hsizes q hq) (by simpa [Function.comp_def] using h5) (by simp) (by simp [hzs, hn])
        simpa [cells, Function.comp_def] using this
      have hns : ¬ (n * P.cellsOf e > 2 ^ 24) := by simp; omega
      by_cases h0 : n * P.cellsOf e = 0
      · have hf0 := hfill [] (by simp [h0])
        simp only [execOp, ho, Instr.buildSlice, Sem.run_bind, run_underlying hu, Result.andThen_ok, info_size hinf, if_neg hns, Sem.run_pure, h0, if_true, hpl]
        simp only [Array.range_zero', List.map_toArray, Array.map_empty, hf0]
        simp [newRow, hf0]
      · have hz' : (zeroCells P e).isSome = true := by
          cases hq : Nat.beq n 0 with
          | true => have := beq_iff.1 hq; subst this; simp at h0
          | false => simpa [hq] using hz
        obtain ⟨cs, hcs⟩ := Option.isSome_iff_exists.1 hz'
        obtain ⟨i, z, hi, hzz, hl, hc⟩ := zeroCells_spec hcs
        have hf0 := hfill ((Array.range (n * P.cellsOf e)).map (z.cells[· % z.cells.size]!)).toList (by simp)
        rw [Array.toArray_toList] at hf0
        simp only [execOp, ho, Instr.buildSlice, Sem.run_bind, run_underlying hu, Result.andThen_ok, info_size hinf, if_neg hns, Sem.run_pure, h0, if_false, zeroValue, typeInfo, run_program, hi, hzz, hpl, hf0]
        simp [newRow]
    refine good_new (w := w) (S := S) (φ := φ) (fz := fz) (w' := w.alloc (.cells cells.toArray e)) (ob := .cells cells.toArray e) (cap := n) hd i1 f1 hfr rfl rfl rfl rfl hrun ?_ ?_
    · intro hle hh
      refine row_ok (w := w) (vs := ps.toList.map fun p => (a.eval p.2).cells.toList) (rest := []) (t := e) (fz := (0, 0)) (by rw [List.append_nil]; exact heap_push_new) hrows h4 (fun _ => hlen.symm) (by omega) (by simp [hlen]) (by intro o _ hc; simp at hc) hle
    · intro φ' e'
      rw [hme]
      exact .c _ _ (.row (loc d) 0 (P.cellsOf e) es 0 true _ _ _ (find_same _ _ _) (Nat.le_refl _) fun _ => by rw [e', φset_same, hlen])
  · exact (val_fail h).elim

/-! ### Slices made -/
theorem made_flat (z : Array Value) (c : Nat) : (madeCells z (c * z.size)).toList = (List.replicate c z.toList).flatten := by
  apply List.ext_getElem?
  intro k
  by_cases hk : k < c * z.size
  · have hz : 0 < z.size := by
      rcases Nat.eq_zero_or_pos z.size with h | h
      · rw [h] at hk; simp at hk
      · exact h
    have h1 : (List.replicate c z.toList)[k / z.size]? = some z.toList := by
      rw [List.getElem?_replicate, if_pos]
      exact (Nat.div_lt_iff_lt_mul hz).2 hk
    have h2 : z.toList[k % z.size]? = some z[k % z.size]! := by
      have := Nat.mod_lt k hz
      simp [this]
    have := flat_get (sz := z.size) (fun e he => by rw [List.eq_of_mem_replicate he]; simp) h1 h2
    rw [Nat.mul_comm, Nat.div_add_mod] at this
    rw [this]
    simp [madeCells, hk]
  · have h1 : ((List.replicate c z.toList).flatten).length ≤ k := by
      rw [flat_length (sz := z.size) (fun e he => by rw [List.eq_of_mem_replicate he]; simp)]; simp; omega
    rw [List.getElem?_eq_none h1, List.getElem?_eq_none (by simp [madeCells]; omega)]
theorem makeSlice_good (hR : Rst N st a w S φ) {t : TypeId} {l c : Operand} (ho : o.op = .makeSlice t l c) (h : (makeSliceM P (meOf o) t (ev st.F l) (ev st.F c)).val call st.H st.Z lg = some r) (hnew : newOk st.H o.dst r.1.new = true) : Good P o st a w S φ r.1 := by
  have rl := hR.ev l
  have rc := hR.ev c
  unfold makeSliceM at h
  split at h
  · rename_i e kl n kc m hu hl hc
    rw [hl] at rl; rw [hc] at rc
    have rl := rl.inv_d.inv_int
    have rc := rc.inv_d.inv_int
    split at h
    · rename_i cs hcs
      replace h := val_need h
      obtain ⟨hb, h⟩ := h
      obtain ⟨h0, h1, h2, h3⟩ := of_decide_eq_true hb
      obtain ⟨ds, fz, lg', h4, hds, hs⟩ := toDs_sound h
      have h5 := val_ret h4
      subst h5
      obtain ⟨d, hd, hfr⟩ := newOk_some hnew
      have hme : meOf o = loc d := by simp [meOf, hd]
      obtain ⟨i, z, hi, hzz, hlen, hcc⟩ := zeroCells_spec hcs
      obtain ⟨S1, i1, f1, hrel⟩ := hs w S φ _ hR.inv (hcc w S st.H φ)
      have hsz : P.cellsOf e = i.size := by simp [Program.cellsOf, hi]
      have hby : P.bytesOf e = i.bytes := by simp [Program.bytesOf, hi]
      have hzs : z.cells.size = P.cellsOf e := by have := (hcc w S st.H φ).length; simp at this; omega
      have hrun := run_make (P := P) w t e i z hu hi hzz kl kc n m h0 h1 (by rw [hby] at h2; rw [Int.mul_comm]; omega) (by omega)
      rw [← hsz, ← hzs] at hrun
      refine good_new (w := w) (S := S) (φ := φ) (fz := fz) (cap := m.toNat) hd i1 f1 hfr rfl rfl rfl rfl (u := .slice (some ⟨w.heap.size, 0, none⟩) n.toNat m.toNat) (w' := w.alloc (.cells (madeCells z.cells (m.toNat * z.cells.size)) e)) (by simp [execOp, ho, rl, rc, hrun]) ?_ ?_
      · intro hle hh
        have hsplit : m.toNat = n.toNat + (m.toNat - n.toNat) := by omega
        have hcells : (madeCells z.cells (m.toNat * z.cells.size)) = ((List.replicate n.toNat z.cells.toList).flatten ++ (List.replicate (m.toNat - n.toNat) z.cells.toList).flatten).toArray := by
          apply toArray_of
          rw [made_flat]
          conv => lhs; rw [hsplit]
          rw [← List.replicate_append_replicate, List.flatten_append]
        have hrest : ((List.replicate (m.toNat - n.toNat) z.cells.toList).flatten).length = (m.toNat - n.toNat) * P.cellsOf e := by
          rw [flat_length (sz := P.cellsOf e) (fun e he => by rw [List.eq_of_mem_replicate he]; simp [hzs])]; simp
        refine row_ok (w := w) (vs := List.replicate n.toNat z.cells.toList) (rest := (List.replicate (m.toNat - n.toNat) z.cells.toList).flatten) (t := e) (fz := (0, 0)) (by rw [← hcells]; exact heap_push_new) ?_ ?_ (by intro hf; cases hf) (by simp; omega) ?_ (by intro o _ hc; simp at hc) hle
        · refine F2.of (by simp) fun k x v hx hv => ?_
          have hx' := List.mem_of_getElem? hx
          have hv' := List.mem_of_getElem? hv
          rw [List.eq_of_mem_replicate hx', List.eq_of_mem_replicate hv']
          exact hrel
        · intro x hx; rw [List.eq_of_mem_replicate hx, hds, hlen]
        · rw [hrest]; simp only [List.length_replicate]
          rw [← Nat.add_mul]; congr 1; omega
      · intro φ' e'
        rw [hme]
        have : Value.slice (some ⟨w.heap.size, 0, none⟩) n.toNat m.toNat = .slice (some ⟨w.heap.size, 0, none⟩) (List.replicate n.toNat ds).length m.toNat := by simp
        rw [this]
        exact .c _ _ (.row (loc d) 0 (P.cellsOf e) _ 0 false _ _ _ (find_same _ _ _) (Nat.le_refl _) fun _ => by rw [e', φset_same])
    · exact (val_fail h).elim
  · exact (val_fail h).elim

/-! ### Conversions -/
theorem bytes_fold (ns : List Int) : ∀ (s : List UInt8), ns.foldl (fun (r : ByteArray) n => r.push (UInt8.ofNat n.toNat)) ⟨s.toArray⟩ = ⟨(s ++ ns.map fun n => UInt8.ofNat n.toNat).toArray⟩ := by
  induction ns with
  | nil => intro s; simp
  | cons n ns ih =>
    intro s
    have : (ByteArray.mk s.toArray).push (UInt8.ofNat n.toNat) = ⟨(s ++ [UInt8.ofNat n.toNat]).toArray⟩ := by
      apply ByteArray.ext
      simp [ByteArray.push]
    simp only [List.foldl_cons, this]
    rw [ih]
    simp
theorem rowStr_spec : ∀ {xs : List (List D)} {s : List UInt8}, rowStr xs = some s → ∃ ns : List Int, xs = ns.map (fun n => [D.int .u8 n]) ∧ s = ns.map fun n => UInt8.ofNat n.toNat
  | [], s, h => by
    simp only [rowStr, omap, Option.some.injEq] at h
    exact ⟨[], rfl, by simp [← h]⟩
  | x :: xs, s, h => by
    simp only [rowStr, omap] at h
    cases hb : byteOf x with
    | none => simp [hb] at h
    | some b =>
      cases hm : omap byteOf xs with
      | none => simp [hb, hm] at h
      | some t =>
        simp [hb, hm] at h
        subst h
        obtain ⟨ns, h1, h2⟩ := rowStr_spec (xs := xs) hm
        unfold byteOf at hb
        split at hb
        · rename_i n
          injection hb with hb
          subst hb
          exact ⟨n :: ns, by simp [h1], by simp [h2]⟩
        · cases hb
theorem bytes_run {xs : List (List D)} {s : List UInt8} (h : rowStr xs = some s) {x0 : Option Addr} {cap : Nat} (hr : RelD w S (.list xs) (.slice x0 xs.length cap)) : (Conv.bytesToString (.slice x0 xs.length cap)).run P w = .ok (.string ⟨s.toArray⟩) w := by
  obtain ⟨ns, rfl, rfl⟩ := rowStr_spec h
  obtain ⟨x0', cap', sz, cv, he, hl⟩ := hr.inv_list
  injection he with e1 _ e3
  subst e1 e3
  rcases hl.ha with h0 | ⟨b, rfl, hb⟩
  · have : ns = [] := by simpa using h0
    subst this
    cases x0 with
    | none => simp [Conv.bytesToString]; rfl
    | some b =>
      have := run_bytesToString (P := P) w b 0 cap [] (by simp [loadCells, loadCellsFrom])
      simp only [List.foldl_nil] at this
      simp only [List.map_nil, List.length_nil]
      rw [this]; rfl
  · have hcell : ∀ (j : Nat) v, (ns.map (Value.int .u8))[j]? = some v → w.cell? (b.add j) = some v := by
      intro j v hj
      simp only [List.getElem?_map] at hj
      cases hn : ns[j]? with
      | none => simp [hn] at hj
      | some n =>
        simp [hn] at hj
        subst hj
        have hjl : j < ns.length := (List.getElem?_eq_some_iff.1 hn).1
        have hel : (ns.map (fun n => [D.int .u8 n]))[j]? = some [D.int .u8 n] := by simp [hn]
        have hsz := hl.hs _ (List.mem_of_getElem? hel)
        simp at hsz
        subst hsz
        have h1 := hb j 0 (by simpa using hjl) (by omega)
        have h2 := (hl.h j 0 _ (.int .u8 n) hel (by simp)).inv_int
        simp at h1
        rw [h1.2, h2]
    have hload := run_loadCells_list (P := P) w b (ns.map (Value.int .u8)) hcell
    have := run_bytesToString (P := P) w b ns.length cap ns (by simpa using hload)
    have hlen : (ns.map (fun n => [D.int .u8 n])).length = ns.length := by simp
    rw [hlen, this]
    have := bytes_fold ns []
    simp at this
    rw [show (ByteArray.empty) = ⟨#[]⟩ from rfl, this]
theorem single_flat {α β : Type} (f : α → β) : ∀ l : List α, (l.map fun b => [f b]).flatten = l.map f
  | [] => rfl
  | a :: l => by simp [single_flat f l]
theorem modify_push {α : Type} (h : Array α) (x : α) (f : α → α) : (h.push x).modify h.size f = h.push (f x) := by
  apply Array.ext
  · simp
  · intro i h1 h2
    simp only [Array.getElem_modify, Array.getElem_push]
    by_cases e : h.size = i
    · subst e; simp
    · have : i < h.size := by simp at h2; omega
      simp [e, this]
def s2bCap (w : World) (s : List UInt8) (e : TypeId) : Nat := (Question.appendCap s.length 0 e).cut (w.tape w.drawn (.appendCap s.length 0 e))
def s2bCells (w : World) (s : List UInt8) (e : TypeId) : List Value := (s.map fun b => [Value.int .u8 b.toNat]).flatten ++ List.replicate (s2bCap w s e - s.length) (.int .u8 0)
theorem s2b_cap (s : List UInt8) (e : TypeId) : s.length ≤ s2bCap w s e := by simp only [s2bCap, Question.cut]; omega
theorem s2b_len (s : List UInt8) (e : TypeId) : (s2bCells w s e).length = s2bCap w s e := by
  have := s2b_cap (w := w) s e
  simp only [s2bCells, single_flat, List.length_append, List.length_map, List.length_replicate]; omega
theorem run_s2b (s : List UInt8) (e : TypeId) : ∃ w', (Conv.stringToBytes e ⟨s.toArray⟩).run P w = .ok (.slice (some ⟨w.heap.size, 0, none⟩) s.length (s2bCap w s e)) w' ∧ w'.os = w.os ∧ w'.tape = w.tape ∧ w'.output = w.output ∧
    w'.heap = w.heap.push (.cells (s2bCells w s e).toArray e (s2bCap w s e, s2bCap w s e + 1)) := by
  have harr : (Array.map (fun b : UInt8 => Value.int .u8 (b.toNat : Int)) s.toArray ++ Array.replicate (s2bCap w s e - s.length) (Value.int .u8 0)) = (s2bCells w s e).toArray := by
    apply toArray_of
    simp [s2bCells, single_flat]
  refine ⟨(w.drew.alloc (.cells (s2bCells w s e).toArray e)).freeze { block := w.heap.size, off := s2bCap w s e } 1, ?_, ?_, ?_, ?_, ?_⟩
  · unfold Conv.stringToBytes
    simp only [Sem.run_bind, run_choose, Question.forced, Bool.false_eq_true, if_false, Result.andThen_ok, size_str, newRow, run_newObj, Sem.run_pure, markStringish, run_shape]
    have hcap : (Question.appendCap s.length 0 e).cut (w.tape w.drawn (.appendCap s.length 0 e)) = s2bCap w s e := rfl
    simp only [hcap, harr, World.drew_eq, World.alloc_eq, World.size_drew]
    have hsh : ({ heap := w.heap.push (.cells (s2bCells w s e).toArray e), tape := w.tape, drawn := w.drawn + 1, os := w.os, output := w.output } : World).shape? w.heap.size = some (e, s2bCap w s e) := by
      show (w.drew.alloc (.cells (s2bCells w s e).toArray e)).shape? w.heap.size = _
      have : (w.drew.alloc (.cells (s2bCells w s e).toArray e)).heap[w.heap.size]? = some (.cells (s2bCells w s e).toArray e) := heap_push_new
      unfold World.shape?
      rw [this]
      simp [s2b_len]
    rw [hsh]
    rfl
  · rfl
  · rfl
  · rfl
  · unfold World.freeze
    rw [if_neg (by decide)]
    dsimp only
    rw [show (w.drew.alloc (.cells (s2bCells w s e).toArray e)).heap = w.heap.push (.cells (s2bCells w s e).toArray e) from rfl, modify_push]
    simp
theorem convert_good (hR : Rst N st a w S φ) {src dst : TypeId} {x : Operand} (ho : o.op = .convert src dst x) (h : (convertM P (meOf o) src dst (ev st.F x)).val call st.H st.Z lg = some r) (hnew : newOk st.H o.dst r.1.new = true) : Good P o st a w S φ r.1 := by
  have rx := hR.ev x
  unfold convertM at h
  split at h
  · rename_i k1 k k2 n hs hd hx
    rw [hx] at rx
    have rx := rx.inv_d.inv_int
    obtain ⟨h1, _⟩ := val_pure h
    rw [h1]
    exact good_pure hR (u := .int k (k.wrap n)) (by simp [execOp, ho, rx, convert, run_underlying hs, run_underlying hd, Conv.intToInt]) (relInt _ _)
  · rename_i s hs hd hx
    rw [hx] at rx
    have rx := rx.inv_d.inv_str
    obtain ⟨h1, _⟩ := val_pure h
    rw [h1]
    exact good_pure hR (u := .string ⟨s.toArray⟩) (by simp [execOp, ho, rx, convert, run_underlying hs, run_underlying hd]) (relStr _)
  · rename_i e s hs hd hx
    rw [hx] at rx
    have rx := rx.inv_d.inv_str
    split at h
    · rename_i he
      replace h := val_and h
      obtain ⟨hsz, h⟩ := h
      have hsz := beq_iff.1 hsz
      have h1 := val_ret h
      subst h1
      obtain ⟨d, hdd, hfr⟩ := newOk_some hnew
      have hme : meOf o = loc d := by simp [meOf, hdd]
      obtain ⟨w', hrun, hos, htape, hout, hheap⟩ := run_s2b (P := P) (w := w) s e
      have hconv : (convert src dst (.string ⟨s.toArray⟩)).run P w = (Conv.stringToBytes e ⟨s.toArray⟩).run P w := by
        simp [convert, run_underlying hs, run_underlying hd, run_underlying he]
      have hlen : (byteRow s).length = s.length := by simp [byteRow]
      have hc := s2b_cap (w := w) s e
      refine good_new (w := w) (S := S) (φ := φ) (fz := []) (cap := s2bCap w s e) hdd hR.inv (Frz.refl _ _ _ _) hfr hos htape hout hheap (u := .slice (some ⟨w.heap.size, 0, none⟩) s.length (s2bCap w s e)) (by simp [execOp, ho, rx, hconv, hrun]) ?_ ?_
      · intro hle hh
        refine row_ok (w := w) (vs := s.map fun b => [Value.int .u8 b.toNat]) (rest := List.replicate (s2bCap w s e - s.length) (.int .u8 0)) (t := e) (fz := (s2bCap w s e, s2bCap w s e + 1)) (by rw [hheap]; exact heap_push_new) ?_ ?_ (by intro hf; cases hf) (by omega) ?_ ?_ hle
        · refine F2.of (by simp [byteRow]) fun k x v hx hv => ?_
          simp only [byteRow, List.getElem?_map] at hx hv
          cases hk : s[k]? with
          | none => simp [hk] at hx
          | some b =>
            simp [hk] at hx hv
            subst hx hv
            exact .cons (.int _ _) .nil
        · intro x hx; simp only [byteRow, List.mem_map] at hx; obtain ⟨b, _, rfl⟩ := hx; rfl
        · simp only [List.length_replicate, hlen]; omega
        · intro o ho hc; omega
      · intro φ' e'
        rw [hme, ← hlen]
        exact .c _ _ (.row (loc d) 0 1 _ 0 false _ _ _ (find_same _ _ _) (Nat.le_refl _) fun _ => by rw [e', φset_same])
    · exact (val_fail h).elim
  · rename_i e hs hd
    split at h
    · rename_i he
      have hconv : ∀ x0 len cap, (convert src dst (.slice x0 len cap)).run P w = (Conv.bytesToString (.slice x0 len cap)).run P w := fun x0 len cap => run_convert_bytes_string w src dst e x0 len cap hs he hd
      split at h
      · rename_i xs hx
        rw [hx] at rx
        generalize hu : a.eval x = u at rx
        obtain ⟨s, hs', h⟩ := val_opt h
        obtain ⟨h1, _⟩ := val_pure h
        rw [h1]
        have hrd := rx.inv_d
        obtain ⟨x0, cap, sz, cv, rfl, hl⟩ := hrd.inv_list
        exact good_pure hR (u := .string ⟨s.toArray⟩) (by simp [execOp, ho, hu, hconv, bytes_run hs' hrd]) (relStr _)
      · rename_i hx
        rw [hx] at rx
        generalize hu : a.eval x = u at rx
        obtain ⟨h1, _⟩ := val_pure h
        rw [h1]
        cases rx.inv_c
        exact good_pure hR (u := .string ⟨#[]⟩) (by simp [execOp, ho, hu, hconv, Conv.bytesToString]; rfl) (relStr [])
      · rename_i n ver hx
        rw [hx] at rx
        generalize hu : a.eval x = u at rx
        obtain ⟨ob, hf, h⟩ := val_look h
        cases rx.inv_c with
        | row _ _ sz xs ver' ex x0 len cap hf' hv hh =>
          rw [hf] at hf'; injection hf' with hf'; subst hf'
          simp only at h
          replace h := val_and h
          obtain ⟨hver, h⟩ := h
          have hval := hh (beq_iff.1 hver).symm
          obtain ⟨s, hs', h⟩ := val_opt h
          obtain ⟨h1, _⟩ := val_pure h
          rw [h1]
          obtain ⟨S', i1, i2, i3, _⟩ := hR.inv.freeze hf
          exact good_pure hR (u := .string ⟨s.toArray⟩) (by simp [execOp, ho, hu, hconv, hval, bytes_run hs' i3]) (relStr _)
      · exact (val_fail h).elim
    · exact (val_fail h).elim
  · exact (val_fail h).elim
end
end Go.Proofs.YtcpidokhkcmdfaaGreat.I

/-! The evaluator's operations against the model's: stores and appends. Conditions: those of each theorem. -/
namespace Go.Proofs.YtcpidokhkcmdfaaGreat.I
open Go
set_option linter.unusedVariables false
set_option linter.unusedSimpArgs false

theorem splice_nil {α : Type} (l : List α) (n : Nat) : splice l n [] = l := by cases l <;> cases n <;> rfl
theorem splice_len {α : Type} : ∀ (l : List α) (n : Nat) (vs : List α), (splice l n vs).length = l.length
  | l, n, [] => by rw [splice_nil]
  | [], n, v :: vs => by cases n <;> rfl
  | x :: l, 0, v :: vs => by simp [splice, splice_len l 0 vs]
  | x :: l, n + 1, v :: vs => by simp [splice, splice_len l n (v :: vs)]
theorem splice_get {α : Type} : ∀ (l : List α) (n : Nat) (vs : List α) (k : Nat), (splice l n vs)[k]? = if n ≤ k ∧ k < n + vs.length ∧ k < l.length then vs[k - n]? else l[k]?
  | l, n, [], k => by rw [splice_nil, if_neg (by simp; omega)]
  | [], n, v :: vs, k => by rw [if_neg (by simp)]; cases n <;> rfl
  | x :: l, 0, v :: vs, 0 => by simp [splice]
  | x :: l, 0, v :: vs, k + 1 => by
    simp only [splice, List.getElem?_cons_succ, splice_get l 0 vs k, List.length_cons, Nat.sub_zero]
    by_cases h : k < vs.length ∧ k < l.length
    · rw [if_pos ⟨by omega, by omega, h.2⟩, if_pos ⟨by omega, by omega, by omega⟩]
    · rw [if_neg (by omega), if_neg (by omega)]
  | x :: l, n + 1, v :: vs, 0 => by simp [splice]
  | x :: l, n + 1, v :: vs, k + 1 => by
    simp only [splice, List.getElem?_cons_succ, splice_get l n (v :: vs) k, List.length_cons]
    by_cases h : n ≤ k ∧ k < n + (vs.length + 1) ∧ k < l.length
    · rw [if_pos h, if_pos ⟨by omega, by omega, by omega⟩]
      congr 1; omega
    · rw [if_neg h, if_neg (by omega)]
theorem splice_set {α : Type} (c : α) (vs : List α) : ∀ (l : List α) (n : Nat), n < l.length → splice (l.set n c) (n + 1) vs = splice l n (c :: vs) := by
  intro l n hn
  apply List.ext_getElem?
  intro k
  rw [splice_get, splice_get]
  simp only [List.length_set, List.length_cons]
  by_cases h1 : k = n
  · subst h1
    rw [if_neg (by omega), if_pos ⟨by omega, by omega, hn⟩]
    simp [hn]
  · by_cases h2 : n + 1 ≤ k ∧ k < n + 1 + vs.length ∧ k < l.length
    · rw [if_pos h2, if_pos ⟨by omega, by omega, by omega⟩]
      have : k - n = (k - (n + 1)) + 1 := by omega
      rw [this, List.getElem?_cons_succ]
    · rw [if_neg h2, if_neg (by omega), List.getElem?_set_ne (by omega)]

section
variable {P : Program} {hs : Hints} {call : Oracle} {N : Nat} {st : St} {a : Act} {w : World} {S : Addr → Prop} {φ : Place} {o : Oper} {lg : List Nat} {r : Eff × List Nat}

/-- Cells that are written, one behind the other. -/
theorem run_storeCells {t : TypeId} {fz : Nat × Nat} : ∀ (vs : List Value) (w : World) (b : Addr) (i : Nat) (cells : List Value), b.spot = none → w.heap[b.block]? = some (.cells cells.toArray t fz) → (∀ o, o < cells.length → ¬ (fz.1 ≤ o ∧ o < fz.2)) → (∀ v ∈ vs, v.oneCell' = true) → b.off + i + vs.length ≤ cells.length →
    ∃ w', (storeCells b vs i).run P w = .ok () w' ∧ w'.os = w.os ∧ w'.tape = w.tape ∧ w'.output = w.output ∧ w'.heap.size = w.heap.size ∧ (∀ k, k ≠ b.block → w'.heap[k]? = w.heap[k]?) ∧ w'.heap[b.block]? = some (.cells (splice cells (b.off + i) vs).toArray t fz)
  | [], w, b, i, cells, hs, hb, hf, h1, hl => ⟨w, rfl, rfl, rfl, rfl, rfl, fun _ _ => rfl, by rw [splice_nil]; exact hb⟩
  | v :: vs, w, b, i, cells, hs, hb, hf, h1, hl => by
    simp only [List.length_cons] at hl
    have hp := add_parts b i hs
    have hin : b.off + i < cells.length := by omega
    have hcell : w.cell? (b.add i) = some cells[b.off + i] := by rw [cell_heap hs hb]; simp [hin]
    have hfr : w.frozen? (b.add i) = false := by
      simp only [World.frozen?, hp.1, hp.2.1, hb]
      have := hf _ hin
      simp; omega
    let w1 := w.setCell (b.add i) v
    have hw1 : w1.heap[b.block]? = some (.cells (cells.set (b.off + i) v).toArray t fz) := by
      simp only [w1, World.setCell, Array.getElem?_modify, hp.1, hp.2.1, hp.2.2, hb]
      simp
    have hother : ∀ k, k ≠ b.block → w1.heap[k]? = w.heap[k]? := fun k hk => heap_setCell_other w (b.add i) k v (by rw [hp.1]; exact hk)
    obtain ⟨w', k1, k2, k3, k4, k5, k6, k7⟩ := run_storeCells vs w1 b (i + 1) (cells.set (b.off + i) v) hs hw1 (by simpa using hf) (fun v hv => h1 v (by simp [hv])) (by simp; omega)
    refine ⟨w', ?_, k2, k3, k4, by rw [k5]; simp [w1], fun k hk => (k6 k hk).trans (hother k hk), ?_⟩
    · simp only [storeCells, Sem.run_bind, run_store P w (b.add i) v .plain (h1 v (by simp)), hcell, hfr, Bool.false_eq_true, if_false, Result.andThen_ok]
      exact k1
    · rw [k7]
      rw [show b.off + (i + 1) = b.off + i + 1 from rfl, splice_set v vs cells (b.off + i) hin]
theorem HLe.box {H : List (Nat × O)} {n : Nat} {cs cs' : List C} (h : find H n = some (.box cs)) (p : Option Addr × Nat) (hp : p.1 = (φ n).1) : HLe H φ ((n, .box cs') :: H) (φset φ n p) := by
  intro m o' hm
  by_cases e : m = n
  · subst e
    rw [h] at hm; injection hm with hm; subst hm
    exact ⟨⟨cs', find_same _ _ _⟩, by rw [φset_same]; exact hp⟩
  · cases o' with
    | box ds => exact ⟨⟨ds, by rw [find_other _ _ (Ne.symm e)]; exact hm⟩, by rw [φset_other φ p e]⟩
    | row sz xs ver ex => exact ⟨xs, ver, ex, by rw [find_other _ _ (Ne.symm e)]; exact hm, Nat.le_refl _, fun _ => ⟨rfl, by rw [φset_other φ p e]⟩⟩
theorem HLe.row {H : List (Nat × O)} {n sz : Nat} {xs xs' : List (List D)} {ver ver' : Nat} {ex ex' : Bool} (h : find H n = some (.row sz xs ver ex)) (p : Option Addr × Nat) (hv : ver ≤ ver') (hp : ver = ver' → xs'.length = xs.length ∧ p = φ n) : HLe H φ ((n, .row sz xs' ver' ex') :: H) (φset φ n p) := by
  intro m o' hm
  by_cases e : m = n
  · subst e
    rw [h] at hm; injection hm with hm; subst hm
    exact ⟨xs', ver', ex', find_same _ _ _, hv, fun e => ⟨(hp e).1, by rw [φset_same]; exact (hp e).2⟩⟩
  · cases o' with
    | box ds => exact ⟨⟨ds, by rw [find_other _ _ (Ne.symm e)]; exact hm⟩, by rw [φset_other φ p e]⟩
    | row sz xs ver ex => exact ⟨xs, ver, ex, by rw [find_other _ _ (Ne.symm e)]; exact hm, Nat.le_refl _, fun _ => ⟨rfl, by rw [φset_other φ p e]⟩⟩
/-- An operation that turns one object, behind rows that are data from now on. -/
theorem good_upd {n : Nat} {o' : O} {S1 : Addr → Prop} {fz : List Nat} (hf : Frz w st.H φ S S1) {w' : World} {φ' : Place} {v : V} {u : Value} (hrun : (execOp a.eval o).run P w = .ok (.value u) w' ∨ ((execOp a.eval o).run P w = .ok .skip w' ∧ u = undef))
    (hi : Inv w' S1 ((n, o') :: st.H) (fz ++ st.Z) φ') (hstep : Step st.H φ w S1 ((n, o') :: st.H) φ' w' S1 ∧ Fram st.H φ [n] w w') (hh : HLe st.H φ ((n, o') :: st.H) φ') (hv : RelV w' S1 ((n, o') :: st.H) φ' v u) : Good P o st a w S φ { v := v, upd := [(n, o')], fz := fz } := by
  have eH : (st.upd o.dst { v := v, upd := [(n, o')], fz := fz }).H = (n, o') :: st.H := by cases hd : o.dst <;> simp [St.upd]
  have eZ : (st.upd o.dst { v := v, upd := [(n, o')], fz := fz }).Z = fz ++ st.Z := by cases hd : o.dst <;> simp [St.upd]
  refine ⟨u, w', S1, φ', hrun, ?_, ?_, ?_, ?_, hstep.2⟩
  · rw [eH]; exact hv
  · rw [eH, eZ]; exact hi
  · rw [eH]; exact hh
  · rw [eH]; exact hf.step.trans hstep.1
theorem cells_one {cs : List C} {v : Value} {H : List (Nat × O)} (h : F2 (RelC w S H φ) cs v.cells.toList) : ∀ u ∈ v.cells.toList, u.oneCell' = true := by
  intro u hu
  obtain ⟨i, hi⟩ := List.getElem?_of_mem hu
  have hl := h.length
  have hil : i < cs.length := by rw [hl]; exact (List.getElem?_eq_some_iff.1 hi).1
  obtain ⟨u', hu', hr⟩ := h.get (List.getElem?_eq_getElem hil)
  rw [hi] at hu'; injection hu' with hu'; subst hu'
  exact hr.one
theorem run_storeVar {t : TypeId} {d : TypeDesc} (hu : P.underlying t = some d) {b : Addr} {v : Value} (hsz : v.cells.size = P.cellsOf t) {w' : World} (h : (storeCells b v.cells.toList).run P w = .ok () w') : (storeVar t b v).run P w = .ok () w' := by
  unfold storeVar
  simp only [Sem.run_bind, run_sizeT hu, Result.andThen_ok, ne_eq, hsz, not_true_eq_false, if_false]
  exact h
theorem lt_of_cells {i j sz n : Nat} (hi : i < n) (hj : j < sz) : i * sz + j < n * sz := by
  have : (i + 1) * sz ≤ n * sz := Nat.mul_le_mul_right _ hi
  rw [Nat.add_mul] at this; omega
theorem store_good (hR : Rst N st a w S φ) {lit : Bool} {t : TypeId} {x y : Operand} (ho : o.op = .store t x y) (h : (storeM P lit t (ev st.F x) (ev st.F y)).val call st.H st.Z lg = some r) : Good P o st a w S φ r.1 := by
  have rx := hR.ev x
  have ry := hR.ev y
  unfold storeM at h
  split at h
  · rename_i xs hxs
    replace h := val_and h
    obtain ⟨hb, h⟩ := h
    obtain ⟨hb, _⟩ := and_t hb
    obtain ⟨hok, hlen⟩ := and_t hb
    have hlen := beq_iff.1 hlen
    obtain ⟨dd, hd⟩ := okT_under hok
    have hcs := ry.cells hxs
    have hsz : (a.eval y).cells.size = P.cellsOf t := by have := hcs.length; simp at this; omega
    split at h
    · rename_i n off hb
      rw [hb] at rx
      generalize hux : a.eval x = u at rx
      obtain ⟨ob, hf, h⟩ := val_look h
      cases rx.inv_c with
      | ptr _ _ cs b hf' hb' =>
        rw [hf] at hf'; injection hf' with hf'; subst hf'
        simp only at h
        replace h := val_and h
        obtain ⟨hle, h⟩ := h
        have hle := Nat.le_of_ble_eq_true hle
        have h1 := val_ret h
        subst h1
        obtain ⟨b', vs, ty, k1, k2, k3⟩ := hR.inv.objs n _ hf
        rw [hb'] at k1; injection k1 with k1; subst k1
        have hvl := k3.length
        have hxl := hcs.length
        have hp := add_parts ⟨b', 0, none⟩ off rfl
        obtain ⟨w', q1, q2, q3, q4, q5, q6, q7⟩ := run_storeCells (P := P) (a.eval y).cells.toList w ((⟨b', 0, none⟩ : Addr).add off) 0 vs hp.2.2 (by rw [hp.1]; exact k2) (by intro o _ hc; simp at hc) (cells_one hcs) (by rw [hp.2.1]; simp at hxl ⊢; omega)
        rw [hp.1] at q6 q7
        rw [hp.2.1] at q7
        simp only [Nat.zero_add, Nat.add_zero] at q7
        have hnS : ∀ c, S c → c.block ≠ b' := fun c hc e => by
          obtain ⟨_, _, _, _, e1, _⟩ := hR.inv.sep n _ _ c hf hb' hc e
          cases e1
        have hleS : Le w S w' S := fun c hc => ⟨hc, World.cell?_of_block (q6 _ (hnS c hc))⟩
        have hh := HLe.box (φ := φ) (cs' := splice cs off xs) hf (φ n) rfl
        obtain ⟨hi', hs'⟩ := hR.inv.change (n := n) (o' := .box (splice cs off xs)) (p := φ n) q2 q3 q4 (Nat.le_of_eq q5.symm) (fun k hk hne => q6 k fun e => hne _ _ hf hb' e.symm) hleS hh
          ⟨b', splice vs off (a.eval y).cells.toList, ty, by rw [φset_same]; exact hb', q7, (k3.splice hcs off).mono fun _ _ h => h.mono hleS hh⟩
          (fun c hc => .inl ⟨_, _, hf, hc, rfl⟩)
          (fun c d hc hd he => by rw [hb'] at hc; injection hc with hc; subst hc; exact absurd he (hnS d hd))
        refine good_upd (fz := []) (Frz.refl _ _ _ _) (.inr ⟨?_, rfl⟩) hi' hs' hh (.u _)
        simp [execOp, ho, hux, Instr.storeAt, Instr.sureAddr, run_storeVar hd hsz q1]
    · rename_i n ver i off hb
      rw [hb] at rx
      generalize hux : a.eval x = u at rx
      obtain ⟨ob, hf, h⟩ := val_look h
      cases rx.inv_c with
      | eptr _ _ _ _ sz es ver' ex ad hf' hv hh =>
        rw [hf] at hf'; injection hf' with hf'; subst hf'
        simp only at h
        replace h := val_and h
        obtain ⟨hb2, h⟩ := h
        obtain ⟨hver, hle⟩ := and_t hb2
        have hver := beq_iff.1 hver
        have hle := Nat.le_of_ble_eq_true hle
        replace h := val_live h
        obtain ⟨hlive, h⟩ := h
        obtain ⟨e, he, h⟩ := val_opt h
        obtain ⟨ds, fz, lg', h3, hds, hs1⟩ := toDs_sound h
        rcases val_bif h3 with ⟨_, h3⟩ | ⟨hnf, h3⟩
        · exact (val_fail h3).elim
        have h1 := val_ret h3
        subst h1
        obtain ⟨hil, b, hb', rfl⟩ := hh hver.symm
        obtain ⟨S1, i1, f1, hrel⟩ := hs1 w S φ _ hR.inv hcs
        obtain ⟨g1, g2, g3, g4⟩ := i1.objs n _ hf
        rcases g4 with g4 | ⟨b', cells, ty, fr, k1, k2, k3, k4, k5, k6⟩
        · rw [hb'] at g4; cases g4.1
        · rw [hb'] at k1; injection k1 with k1; subst k1
          have hxl := hcs.length
          have hp := add_parts b (i * sz + off) k2
          have hin : i * sz + sz ≤ (φ n).2 * sz := by
            have : (i + 1) * sz ≤ (φ n).2 * sz := Nat.mul_le_mul_right _ (by omega)
            rw [Nat.add_mul] at this; omega
          obtain ⟨w', q1, q2, q3, q4, q5, q6, q7⟩ := run_storeCells (P := P) (a.eval y).cells.toList w (b.add (i * sz + off)) 0 cells.toList hp.2.2 (by rw [hp.1]; simpa using k3) (by simpa using k5) (cells_one hcs) (by rw [hp.2.1]; simp at hxl ⊢; omega)
          rw [hp.1] at q6 q7
          rw [hp.2.1] at q7
          simp only [Nat.add_zero] at q7
          have hnZ : n ∉ fz ++ st.Z := by
            intro hc
            rcases List.mem_append.1 hc with hc | hc
            · rw [(memb_iff fz n).2 hc] at hnf; cases hnf
            · rw [(memb_iff st.Z n).2 hc] at hlive; cases hlive
          have hnS : ∀ c, S1 c → c.block ≠ b.block := fun c hc e => by
            obtain ⟨_, _, _, _, _, e2, _⟩ := i1.sep n _ _ c hf hb' hc e
            exact hnZ e2
          have hleS : Le w S1 w' S1 := fun c hc => ⟨hc, World.cell?_of_block (q6 _ (hnS c hc))⟩
          have hh' := HLe.row (φ := φ) (xs' := es.set i (splice e off ds)) (ex' := ex) hf (φ n) (Nat.le_refl ver') (fun _ => ⟨by simp, rfl⟩)
          have hel : e.length = sz := g3 e (List.mem_of_getElem? he)
          obtain ⟨hi', hs'⟩ := i1.change (n := n) (o' := .row sz (es.set i (splice e off ds)) ver' ex) (p := φ n) q2 q3 q4 (Nat.le_of_eq q5.symm) (fun k hk hne => q6 k fun e => hne _ _ hf hb' e.symm) hleS hh'
            ⟨by rw [φset_same]; simpa using g1, by rw [φset_same]; simpa using g2, by
                intro c hc
                rcases List.mem_or_eq_of_mem_set hc with hc | rfl
                · exact g3 c hc
                · rw [splice_len]; exact hel, .inr ⟨b, _, ty, fr, by rw [φset_same]; exact hb', k2, q7, by rw [φset_same]; simp [splice_len]; exact k4, by simpa [splice_len] using k5, by
                intro i' j e' d hi' hj
                have hes : (es.set i (splice e off ds))[i']? = if i = i' then some (splice e off ds) else es[i']? := by
                  rw [List.getElem?_set]
                  by_cases e1 : i = i'
                  · subst e1; simp [hil]
                  · simp [e1]
                rw [hes] at hi'
                simp only [List.getElem?_toArray, splice_get, Array.length_toList, Array.getElem?_toList]
                have hdl : ds.length = (a.eval y).cells.size := by rw [hds]; simpa using hxl
                by_cases e1 : i = i'
                · subst e1
                  rw [if_pos rfl] at hi'
                  injection hi' with hi'
                  subst hi'
                  rw [splice_get] at hj
                  by_cases hr : off ≤ j ∧ j < off + ds.length ∧ j < e.length
                  · rw [if_pos hr] at hj
                    obtain ⟨v, hv, hrv⟩ := hrel.get hj
                    refine ⟨v, ?_, hrv.mono hleS⟩
                    have hjn : b.off + (i * sz + j) < cells.size := by
                      have : i * sz + j < (φ n).2 * sz := by omega
                      omega
                    rw [if_pos ⟨by omega, by omega, hjn⟩]
                    rw [show b.off + (i * sz + j) - (b.off + (i * sz + off)) = j - off by omega]
                    simpa using hv
                  · rw [if_neg hr] at hj
                    obtain ⟨v, hv, hrv⟩ := k6 i j e d he hj
                    refine ⟨v, ?_, hrv.mono hleS⟩
                    have hjl : j < e.length := (List.getElem?_eq_some_iff.1 hj).1
                    rw [if_neg (by omega)]
                    exact hv
                · rw [if_neg e1] at hi'
                  obtain ⟨v, hv, hrv⟩ := k6 i' j e' d hi' hj
                  refine ⟨v, ?_, hrv.mono hleS⟩
                  have hjl : j < sz := by rw [← g3 e' (List.mem_of_getElem? hi')]; exact (List.getElem?_eq_some_iff.1 hj).1
                  have hout : i' * sz + j < i * sz + off ∨ i * sz + sz ≤ i' * sz + j := by
                    rcases Nat.lt_or_gt_of_ne e1 with e2 | e2
                    · right
                      have : (i + 1) * sz ≤ i' * sz := Nat.mul_le_mul_right _ e2
                      rw [Nat.add_mul] at this; omega
                    · left
                      have := lt_of_cells e2 hjl; omega
                  rw [if_neg (by omega)]
                  exact hv⟩⟩
            (fun c hc => .inl ⟨_, _, hf, hc, rfl⟩)
            (fun c d hc hd he => by rw [hb'] at hc; injection hc with hc; subst hc; exact absurd he (hnS d hd))
          refine good_upd (fz := fz) f1 (.inr ⟨?_, rfl⟩) hi' hs' hh' (.u _)
          simp [execOp, ho, hux, Instr.storeAt, Instr.sureAddr, run_storeVar hd hsz q1]
    · exact (val_fail h).elim
  · exact (val_fail h).elim
end
end Go.Proofs.YtcpidokhkcmdfaaGreat.I

/-! The evaluator's operations against the model's: appends; builtins; structs compared. Conditions: those of each theorem. -/
namespace Go.Proofs.YtcpidokhkcmdfaaGreat.I
open Go
set_option linter.unusedVariables false
set_option linter.unusedSimpArgs false
section
variable {P : Program} {hs : Hints} {call : Oracle} {N : Nat} {st : St} {a : Act} {w : World} {S : Addr → Prop} {φ : Place} {o : Oper} {lg : List Nat} {r : Eff × List Nat}

/-- Cells of a slice: where they lie, group by group. -/
def Cells (w : World) (x0 : Option Addr) (vs : List (List Value)) (sz : Nat) : Prop := vs = [] ∨ ∃ b, x0 = some b ∧ ∀ (i j : Nat) v u, vs[i]? = some v → v[j]? = some u → w.cell? (b.add (i * sz + j)) = some u
theorem firstCells_run {x0 : Option Addr} {vs : List (List Value)} {sz cap : Nat} (hc : Cells w x0 vs sz) (hs : ∀ v ∈ vs, v.length = sz) (w2 : World) (h2 : w2.heap = w.heap) : (Builtin.firstCells sz vs.length (.slice x0 vs.length cap)).run P w2 = .ok vs.flatten.toArray w2 := by
  rcases hc with rfl | ⟨b, rfl, hb⟩
  · cases x0 <;> simp [Builtin.firstCells, loadCells, loadCellsFrom]
  · refine run_firstCells_some w2 sz vs.length b _ _ vs.flatten (flat_length hs) fun k u hk => ?_
    have hkl : k < vs.length * sz := by rw [← flat_length hs]; exact (List.getElem?_eq_some_iff.1 hk).1
    have hsz : 0 < sz := by
      rcases Nat.eq_zero_or_pos sz with h | h
      · rw [h] at hkl; simp at hkl
      · exact h
    have hi : k / sz < vs.length := (Nat.div_lt_iff_lt_mul hsz).2 hkl
    have h1 : vs[k / sz]? = some vs[k / sz] := List.getElem?_eq_getElem hi
    have hl := hs _ (List.getElem_mem hi)
    have hm : k % sz < (vs[k / sz]).length := by rw [hl]; exact Nat.mod_lt k hsz
    have h3 : (vs[k / sz])[k % sz]? = some (vs[k / sz])[k % sz] := List.getElem?_eq_getElem hm
    have h4 := flat_get hs h1 h3
    have h5 := hb _ _ _ _ h1 h3
    have e : k / sz * sz + k % sz = k := by rw [Nat.mul_comm]; exact Nat.div_add_mod k sz
    rw [e] at h4 h5
    rw [hk] at h4; injection h4 with h4
    rw [h4, World.cell?_of_block (w := w) (by rw [h2])]
    exact h5
/-- What is appended: so many elements, their cells. -/
structure Src (P : Program) (w : World) (S : Addr → Prop) (sz : Nat) (t : TypeId) (u : Value) (ys : List (List D)) (vs : List (List Value)) : Prop where
  rows : Rows w S ys vs
  len : ∀ w2, (Builtin.lenOf u).run P w2 = .ok ys.length w2
  first : (∀ y ∈ ys, y.length = sz) → ∀ w2 : World, w2.heap = w.heap → (Builtin.firstCells sz ys.length u).run P w2 = .ok vs.flatten.toArray w2
  type : P.underlying t = some .string ∨ ∃ e, P.underlying t = some (.slice e)
theorem Rows.sizes {sz : Nat} {ys : List (List D)} {vs : List (List Value)} (h : Rows w S ys vs) (hs : ∀ y ∈ ys, y.length = sz) : ∀ v ∈ vs, v.length = sz := by
  intro v hv
  obtain ⟨i, hi⟩ := List.getElem?_of_mem hv
  have hl := F2.length h
  have hil : i < ys.length := by rw [hl]; exact (List.getElem?_eq_some_iff.1 hi).1
  obtain ⟨v', hv', hr⟩ := F2.get h (List.getElem?_eq_getElem hil)
  rw [hi] at hv'; injection hv' with hv'; subst hv'
  rw [← hr.length]; exact hs _ (List.getElem_mem hil)
/-- The elements' values, out of their places. -/
def valsOf (ys : List (List D)) (f : Nat → Nat → Value) : List (List Value) := ys.zipIdx.map fun (e, i) => (List.range e.length).map fun j => f i j
theorem valsOf_get {ys : List (List D)} {f : Nat → Nat → Value} {i : Nat} {v : List Value} (h : (valsOf ys f)[i]? = some v) : ∃ e, ys[i]? = some e ∧ v = (List.range e.length).map fun j => f i j := by
  simp only [valsOf, List.getElem?_map, List.getElem?_zipIdx, Nat.zero_add] at h
  cases hy : ys[i]? with
  | none => simp [hy] at h
  | some e => simp [hy] at h; exact ⟨e, rfl, h.symm⟩
theorem valsOf_len (ys : List (List D)) (f : Nat → Nat → Value) : (valsOf ys f).length = ys.length := by simp [valsOf]
theorem valsOf_rows {ys : List (List D)} {f : Nat → Nat → Value} (h : ∀ (i j : Nat) e d, ys[i]? = some e → e[j]? = some d → RelD w S d (f i j)) : Rows w S ys (valsOf ys f) := by
  refine F2.of (valsOf_len ys f).symm fun i e v hi hv => ?_
  obtain ⟨e', he', rfl⟩ := valsOf_get hv
  rw [hi] at he'; injection he' with he'; subst he'
  refine F2.of (by simp) fun j d u hj hu => ?_
  have hjl : j < e.length := (List.getElem?_eq_some_iff.1 hj).1
  simp [hjl] at hu
  subst hu
  exact h i j e d hi hj
theorem valsOf_cells {ys : List (List D)} {f : Nat → Nat → Value} {x0 : Option Addr} {sz : Nat} (h : ys = [] ∨ ∃ b, x0 = some b ∧ ∀ (i j : Nat) e d, ys[i]? = some e → e[j]? = some d → w.cell? (b.add (i * sz + j)) = some (f i j)) : Cells w x0 (valsOf ys f) sz := by
  rcases h with rfl | ⟨b, rfl, hb⟩
  · exact .inl rfl
  · refine .inr ⟨b, rfl, fun i j v u hv hu => ?_⟩
    obtain ⟨e, he, rfl⟩ := valsOf_get hv
    have hjl : j < e.length := by have := (List.getElem?_eq_some_iff.1 hu).1; simpa using this
    simp [hjl] at hu
    subst hu
    exact hb i j e _ he (List.getElem?_eq_getElem hjl)
/-- A slice's elements: their values, and that they lie so. -/
theorem lies_vals {xs : List (List D)} {x0 : Option Addr} {cap sz : Nat} {cv : Nat → Nat → Value} (hl : Lies w S xs x0 cap sz cv) (sz' : Nat) (hsz : ∀ y ∈ xs, y.length = sz') : Rows w S xs (valsOf xs cv) ∧ Cells w x0 (valsOf xs cv) sz' := by
  refine ⟨valsOf_rows hl.h, valsOf_cells ?_⟩
  rcases hl.ha with h0 | ⟨b, hb, hh⟩
  · exact .inl h0
  · refine .inr ⟨b, hb, fun i j e d hi hj => ?_⟩
    have h1 := hl.hs e (List.mem_of_getElem? hi)
    have h2 := hsz e (List.mem_of_getElem? hi)
    have e : sz = sz' := by omega
    subst e
    exact (hh i j (List.getElem?_eq_some_iff.1 hi).1 (by rw [← h1]; exact (List.getElem?_eq_some_iff.1 hj).1)).2
/-- A row's elements likewise. -/
theorem row_vals {H : List (Nat × O)} {Z : List Nat} (hi : Inv w S H Z φ) {n sz : Nat} {xs : List (List D)} {ver : Nat} {ex : Bool} (hf : find H n = some (.row sz xs ver ex)) : ∃ vs, Rows w S xs vs ∧ Cells w (φ n).1 vs sz ∧ (∀ v ∈ vs, v.length = sz) ∧ vs.length = xs.length := by
  obtain ⟨g1, g2, g3, g4⟩ := hi.objs n _ hf
  rcases g4 with ⟨h1, h2⟩ | ⟨b, cells, ty, fr, k1, k2, k3, k4, k5, k6⟩
  · have : xs = [] := List.eq_nil_of_length_eq_zero (by omega)
    subst this
    exact ⟨[], .nil, .inl rfl, by simp, rfl⟩
  · let f : Nat → Nat → Value := fun i j => cells.getD (b.off + (i * sz + j)) undef
    have hf' : ∀ (i j : Nat) e d, xs[i]? = some e → e[j]? = some d → cells[b.off + (i * sz + j)]? = some (f i j) ∧ RelD w S d (f i j) := fun i j e d hi hj => by
      obtain ⟨v, k7, k8⟩ := k6 i j e d hi hj
      have : f i j = v := by simp only [f]; rw [Array.getD_eq_getD_getElem?, k7]; rfl
      rw [this]; exact ⟨k7, k8⟩
    have hr : Rows w S xs (valsOf xs f) := valsOf_rows fun i j e d hi hj => (hf' i j e d hi hj).2
    refine ⟨_, hr, valsOf_cells (.inr ⟨b, k1, fun i j e d hi hj => ?_⟩), hr.sizes g3, valsOf_len _ _⟩
    rw [cell_heap k2 k3]; exact (hf' i j e d hi hj).1
theorem src_sound {t : TypeId} {y : V} {u : Value} {k : List (List D) → M Eff} (hi : Inv w S st.H st.Z φ) (hy : RelV w S st.H φ y u) (h : (srcM P t y k).val call st.H st.Z lg = some r) (sz : Nat) :
    ∃ ys lg', (k ys).val call st.H st.Z lg' = some r ∧ ((∀ e ∈ ys, e.length = sz) → ∃ vs, Src P w S sz t u ys vs) := by
  unfold srcM at h
  split at h
  · rename_i e ys hu
    refine ⟨ys, lg, h, fun hsz => ?_⟩
    obtain ⟨x0, cap, sz', cv, rfl, hl⟩ := hy.inv_d.inv_list
    obtain ⟨h1, h2⟩ := lies_vals hl sz hsz
    refine ⟨_, h1, fun w2 => by simp [Builtin.lenOf], fun _ w2 hw2 => ?_, .inr ⟨_, hu⟩⟩
    have := firstCells_run (P := P) (cap := cap) h2 (h1.sizes hsz) w2 hw2
    rw [valsOf_len] at this
    exact this
  · rename_i e hu
    refine ⟨[], lg, h, fun hsz => ?_⟩
    cases hy.inv_c
    exact ⟨[], .nil, fun w2 => by simp [Builtin.lenOf], fun _ w2 hw2 => by simp [Builtin.firstCells], .inr ⟨_, hu⟩⟩
  · rename_i e n ver hu
    obtain ⟨ob, hf, h⟩ := val_look h
    cases hy.inv_c with
    | row _ _ sz' xs ver' ex x0 len cap hf' hv hh =>
      rw [hf] at hf'; injection hf' with hf'; subst hf'
      simp only at h
      replace h := val_and h
      obtain ⟨hver, h⟩ := h
      have hval := hh (beq_iff.1 hver).symm
      injection hval with e1 e2 e3
      subst e1 e2
      refine ⟨xs, _, h, fun hsz => ?_⟩
      obtain ⟨vs, k1, k2, k3, k4⟩ := row_vals hi hf
      have hz : xs = [] ∨ sz' = sz := by
        cases xs with
        | nil => exact .inl rfl
        | cons x xs =>
          right
          have g3 := (hi.objs n _ hf).2.2.1 x (by simp)
          rw [← g3]; exact hsz x (by simp)
      refine ⟨vs, k1, fun w2 => by simp [Builtin.lenOf], fun _ w2 hw2 => ?_, .inr ⟨_, hu⟩⟩
      have k2' : Cells w (φ n).1 vs sz := by
        rcases hz with rfl | rfl
        · left; exact List.eq_nil_of_length_eq_zero k4
        · exact k2
      have := firstCells_run (P := P) (cap := cap) k2' (k1.sizes hsz) w2 hw2
      rw [k4] at this
      exact this
  · rename_i s hu
    refine ⟨byteRow s, lg, h, fun hsz => ?_⟩
    have := hy.inv_d.inv_str
    subst this
    have hlen : (byteRow s).length = s.length := by simp [byteRow]
    refine ⟨s.map fun b => [Value.int .u8 b.toNat], F2.of (by simp [byteRow]) (fun k x v hx hv => ?_), fun w2 => by simp [Builtin.lenOf, size_str, hlen], fun _ w2 hw2 => ?_, .inl hu⟩
    · simp only [byteRow, List.getElem?_map] at hx hv
      cases hk : s[k]? with
      | none => simp [hk] at hx
      | some b =>
        simp [hk] at hx hv
        subst hx hv
        exact .cons (.int _ _) .nil
    · simp only [Builtin.firstCells, Sem.run_pure, single_flat, hlen]
      congr 1
      rw [extract_str s 0 s.length (Nat.le_refl _)]
      simp
  · exact (val_fail h).elim
/-- Append in place. -/
theorem append_in {t t' ty e : TypeId} (ht : P.underlying t = some (.slice e)) {sz : Nat} (hsz : P.cellsOf e = sz) (hinf : (P.info? e).isSome = true) {x0 : Option Addr} {sLen sCap : Nat} {u : Value} {ys : List (List D)} {vs : List (List Value)} (hsrc : Src P w S sz t' u ys vs) (hys : ∀ y ∈ ys, y.length = sz) (hfit : sLen + ys.length ≤ sCap) {w' : World}
    (hst : (match x0 with | some b => storeCells (b.add (sLen * sz)) vs.flatten | none => pure ()).run P w = .ok () w') :
    (Builtin.append_ #[t, t'] ty #[.slice x0 sLen sCap, u]).run P w = .ok (.slice x0 (sLen + ys.length) sCap) w' := by
  have hfirst := hsrc.first hys w rfl
  cases x0 with
  | none =>
    simp only [Sem.run_pure] at hst
    injection hst with _ hst
    subst hst
    rcases hsrc.type with hu | ⟨e', hu⟩ <;> simp [Builtin.append_, run_underlying ht, run_underlying hu, info_size hinf, hsz, hsrc.len, hfit, hfirst]
  | some b =>
    rcases hsrc.type with hu | ⟨e', hu⟩ <;> simp [Builtin.append_, run_underlying ht, run_underlying hu, info_size hinf, hsz, hsrc.len, hfit, hfirst, hst]
/-- Append that makes a new row. -/
theorem append_new {t t' ty e : TypeId} (ht : P.underlying t = some (.slice e)) {cs : List C} (hzc : zeroCells P e = some cs) {x0 : Option Addr} {sLen sCap : Nat} {u : Value} {ys : List (List D)} {vs xvs : List (List Value)} (hsrc : Src P w S (P.cellsOf e) t' u ys vs) (hys : ∀ y ∈ ys, y.length = P.cellsOf e)
    (hx : Cells w x0 xvs (P.cellsOf e)) (hxs : ∀ v ∈ xvs, v.length = P.cellsOf e) (hxl : xvs.length = sLen) (hgrow : sCap < sLen + ys.length) (hb1 : 1 ≤ P.bytesOf e) (hroom : (sLen + ys.length) * P.bytesOf e ≤ 140737488355328) :
    ∃ w' cap rest, (Builtin.append_ #[t, t'] ty #[.slice x0 sLen sCap, u]).run P w = .ok (.slice (some ⟨w.heap.size, 0, none⟩) (sLen + ys.length) cap) w' ∧ w'.os = w.os ∧ w'.tape = w.tape ∧ w'.output = w.output ∧ sLen + ys.length ≤ cap ∧
      w'.heap = w.heap.push (.cells ((xvs ++ vs).flatten ++ rest).toArray e) ∧ rest.length = (cap - (sLen + ys.length)) * P.cellsOf e := by
  obtain ⟨i, z, hi, hzz, hlen, hcc⟩ := zeroCells_spec hzc
  have hinf : (P.info? e).isSome = true := by rw [hi]; rfl
  have hzsz : z.cells.size = P.cellsOf e := by have := (hcc w S [] (fun _ => (none, 0))).length; simp at this; omega
  have hby : P.bytesOf e = i.bytes := by simp [Program.bytesOf, hi]
  let need := sLen + ys.length
  have hng : ¬ need ≤ sCap := by simp only [need]; omega
  have hfit := growslice_fits (bytes := i.bytes) hgrow (by rw [← hby]; exact hroom)
  have h63 : ¬ ((need : Int) > IntKind.i64.max ∧ (False ∨ i.bytes = 0)) := by
    rintro ⟨_, h⟩
    rcases h with h | h
    · exact h
    · omega
  have hold := firstCells_run (P := P) (cap := sCap) hx hxs w.drew rfl
  rw [hxl] at hold
  have hfirst := hsrc.first hys w.drew rfl
  refine ⟨w.drew.alloc (.cells ((xvs ++ vs).flatten ++ (Builtin.zeroCells z.cells (grownCap w need sCap e - need)).toList).toArray e), grownCap w need sCap e, (Builtin.zeroCells z.cells (grownCap w need sCap e - need)).toList, ?_, rfl, rfl, rfl, grownCap_ge w need sCap e, rfl, ?_⟩
  · have hcut : (Question.appendCap need sCap e).cut (w.tape w.drawn (.appendCap need sCap e)) = grownCap w need sCap e := rfl
    have hcells : (xvs.flatten.toArray ++ vs.flatten.toArray ++ Builtin.zeroCells z.cells (grownCap w need sCap e - need)) = ((xvs ++ vs).flatten ++ (Builtin.zeroCells z.cells (grownCap w need sCap e - need)).toList).toArray := by
      apply toArray_of
      simp
    have hfit' : ¬ (281474976710656 < Builtin.nextslicecap (sLen + ys.length) sCap * i.bytes) := by omega
    have hb0 : ¬ i.bytes = 0 := by omega
    simp only [need] at hng hcells hcut ⊢
    rcases hsrc.type with hu | ⟨e', hu⟩ <;>
      (simp [Builtin.append_, run_underlying ht, run_underlying hu, info_size hinf, hsrc.len, hng, typeInfo, hi, hfit', hb0, Question.forced, hold, hfirst, zeroValue, hzz, newRow, hcut, World.drew_eq]
       congr 2
       apply Array.ext'
       simp)
  · simp [size_zeroCells, hzsz]
    rfl

theorem app_spec {sz bytes : Nat} {xs ys r : List (List D)} (h : app sz bytes xs ys = some r) : (xs.length + ys.length) * bytes ≤ 140737488355328 ∧ (∀ y ∈ ys, y.length = sz) ∧ r = xs ++ ys := by
  unfold app at h
  split at h
  · rename_i hh
    injection h with h
    exact ⟨hh.1, hh.2, h.symm⟩
  · cases h
theorem rows_append {xs ys : List (List D)} {vs us : List (List Value)} (h : Rows w S xs vs) (h' : Rows w S ys us) : Rows w S (xs ++ ys) (vs ++ us) := F2.append h h'
/-- A row of an object's name, new in memory. -/
theorem grown_ok {w' : World} {n sz cap : Nat} {xs ys : List (List D)} {vs us : List (List Value)} {rest : List Value} {t : TypeId} {ver : Nat} {H : List (Nat × O)} (hw : w'.heap = w.heap.push (.cells ((vs ++ us).flatten ++ rest).toArray t)) (h : Rows w S xs vs) (h' : Rows w S ys us) (hx : ∀ y ∈ xs, y.length = sz) (hy : ∀ y ∈ ys, y.length = sz)
    (hcap : xs.length + ys.length ≤ cap) (hrest : rest.length = (cap - (xs.length + ys.length)) * sz) (hle : Le w S w' S) : ObjOk w' S H (φset φ n (some ⟨w.heap.size, 0, none⟩, cap)) n (.row sz (xs ++ ys) ver false) := by
  have hlen : (xs ++ ys).length = xs.length + ys.length := by simp
  have := row_ok (w := w) (w' := w') (S := S) (H' := H) (φ := φ) (n := n) (sz := sz) (cap := cap) (es := xs ++ ys) (vs := vs ++ us) (rest := rest) (t := t) (fz := (0, 0)) (ex := false) (by rw [hw]; exact heap_push_new) (rows_append h h')
    (fun e he => by rcases List.mem_append.1 he with he | he; exact hx e he; exact hy e he) (by intro h; cases h) (by rw [hlen]; exact hcap) (by rw [hlen, hrest, ← Nat.add_mul]; congr 1; omega) (by intro o _ hc; simp at hc) hle
  exact this
theorem append_good (hR : Rst N st a w S φ) {t t' : TypeId} {c : Call} {x y : Operand} (ho : o.op = .call c) (hc : c.callee = .builtin .append) (hts : c.argTypes = #[t, t']) (has : c.args = #[x, y]) (h : (appendM P (meOf o) t t' (ev st.F x) (ev st.F y)).val call st.H st.Z lg = some r) (hnew : newOk st.H o.dst r.1.new = true) : Good P o st a w S φ r.1 := by
  have rx := hR.ev x
  have ry := hR.ev y
  have hexec : ∀ {u : Value} {w' : World}, (Builtin.append_ #[t, t'] o.type #[a.eval x, a.eval y]).run P w = .ok u w' → (execOp a.eval o).run P w = .ok (.value u) w' := fun {u w'} hr =>
    run_callB ho hc (by simp [builtin, hts, has, hr])
  unfold appendM at h
  split at h
  · rename_i e hu
    replace h := val_and h
    obtain ⟨hb, h⟩ := h
    obtain ⟨hb1, hzc⟩ := and_t hb
    have hb1 := Nat.le_of_ble_eq_true hb1
    obtain ⟨cs, hzc⟩ := Option.isSome_iff_exists.1 hzc
    obtain ⟨i, z, hi, hzz, _, _⟩ := zeroCells_spec hzc
    have hinf : (P.info? e).isSome = true := by rw [hi]; rfl
    split at h
    · rename_i hx
      rw [hx] at rx
      generalize hux : a.eval x = u at rx hexec
      cases rx.inv_c
      obtain ⟨ys, lg', h, hsrc⟩ := src_sound hR.inv ry h (P.cellsOf e)
      obtain ⟨r', hr', h⟩ := val_opt h
      have h1 := val_ret h
      subst h1
      obtain ⟨hroom, hys, hr''⟩ := app_spec hr'
      simp only [List.nil_append] at hr''
      have hr'' := hr''.symm
      subst hr''
      obtain ⟨vs, hsrc⟩ := hsrc hys
      obtain ⟨d, hd, hfr⟩ := newOk_some hnew
      have hme : meOf o = loc d := by simp [meOf, hd]
      by_cases h0 : ys.length = 0
      · have hy0 : ys = [] := List.eq_nil_of_length_eq_zero h0
        subst hy0
        have hv0 : vs = [] := List.eq_nil_of_length_eq_zero (F2.length hsrc.rows).symm
        subst hv0
        have hrun := hexec (append_in (ty := o.type) (x0 := none) (sLen := 0) (sCap := 0) hu rfl hinf hsrc hys (by simp) (w' := w) rfl)
        have hh := HLe.new (φ := φ) hfr (.row (P.cellsOf e) [] 0 false) (none, 0)
        obtain ⟨i1, i2⟩ := hR.inv.change (n := loc d) (o' := .row (P.cellsOf e) [] 0 false) (p := (none, 0)) rfl rfl rfl (Nat.le_refl _) (fun _ _ _ => rfl) (Le.refl _ _) hh
          ⟨(by intro h; cases h), by simp, by simp, .inl ⟨by rw [φset_same], by rw [φset_same]⟩⟩ (fun b hb => by cases hb) (fun b c hb => by cases hb)
        have eH : (st.upd o.dst { v := .c (.row (meOf o) 0), new := some (.row (P.cellsOf e) [] 0 false) }).H = (loc d, .row (P.cellsOf e) [] 0 false) :: st.H := by simp [St.upd, hd]
        have eZ : (st.upd o.dst { v := .c (.row (meOf o) 0), new := some (.row (P.cellsOf e) [] 0 false) }).Z = st.Z := by simp [St.upd, hd]
        refine ⟨_, w, S, φset φ (loc d) (none, 0), .inl hrun, ?_, ?_, ?_, ?_, fun _ _ _ _ _ _ => rfl⟩
        · rw [eH, hme]
          exact .c _ _ (.row (loc d) 0 (P.cellsOf e) [] 0 false _ _ _ (find_same _ _ _) (Nat.le_refl _) fun _ => by rw [φset_same]; rfl)
        · rw [eH, eZ]; exact i1
        · rw [eH]; exact hh
        · rw [eH]; exact i2.1
      · obtain ⟨w', cap, rest, hrun, q1, q2, q3, q4, q5, q6⟩ := append_new (ty := o.type) (x0 := none) (sLen := 0) (sCap := 0) (xvs := []) hu hzc hsrc hys (.inl rfl) (by simp) rfl (by omega) hb1 (by simpa using hroom)
        refine good_new (w := w) (S := S) (φ := φ) (fz := []) (cap := cap) hd hR.inv (Frz.refl _ _ _ _) hfr q1 q2 q3 q5 (hexec hrun) ?_ ?_
        · intro hle hh
          have := grown_ok (φ := φ) (n := loc d) (ver := 0) (H := (loc d, .row (P.cellsOf e) ys 0 false) :: st.H) (xs := []) (vs := []) q5 .nil hsrc.rows (by simp) hys (by simpa using q4) (by simpa using q6) hle
          simpa using this
        · intro φ' e'
          rw [hme]
          exact .c _ _ (.row (loc d) 0 (P.cellsOf e) ys 0 false _ _ _ (find_same _ _ _) (Nat.le_refl _) fun _ => by rw [e', φset_same, Nat.zero_add])
    · rename_i xs hx
      rw [hx] at rx
      generalize hux : a.eval x = u at rx hexec
      obtain ⟨ys, lg', h, hsrc⟩ := src_sound hR.inv ry h (P.cellsOf e)
      replace h := val_need h
      obtain ⟨hne, h⟩ := h
      obtain ⟨r', hr', h⟩ := val_opt h
      have h1 := val_ret h
      subst h1
      unfold appL at hr'
      split at hr'
      · rename_i hxs
        obtain ⟨hroom, hys, hr''⟩ := app_spec hr'
        subst hr''
        obtain ⟨vs, hsrc⟩ := hsrc hys
        obtain ⟨d, hd, hfr⟩ := newOk_some hnew
        have hme : meOf o = loc d := by simp [meOf, hd]
        obtain ⟨x0, sz, cv, rfl, hl⟩ := rx.inv_d.inv_lit
        obtain ⟨x1, x2⟩ := lies_vals hl (P.cellsOf e) hxs
        have hlen : 0 < ys.length := by cases ys with
          | nil => simp at hne
          | cons _ _ => simp
        obtain ⟨w', cap, rest, hrun, q1, q2, q3, q4, q5, q6⟩ := append_new (ty := o.type) (x0 := x0) (sLen := xs.length) (sCap := xs.length) (xvs := valsOf xs cv) hu hzc hsrc hys x2 (x1.sizes hxs) (valsOf_len _ _) (by omega) hb1 hroom
        refine good_new (w := w) (S := S) (φ := φ) (fz := []) (cap := cap) hd hR.inv (Frz.refl _ _ _ _) hfr q1 q2 q3 q5 (hexec hrun) ?_ ?_
        · intro hle hh
          exact grown_ok (φ := φ) (n := loc d) (ver := 0) q5 x1 hsrc.rows hxs hys q4 q6 hle
        · intro φ' e'
          rw [hme]
          exact .c _ _ (.row (loc d) 0 (P.cellsOf e) (xs ++ ys) 0 false _ _ _ (find_same _ _ _) (Nat.le_refl _) fun _ => by rw [e', φset_same]; simp)
      · cases hr'
    · rename_i n ver hx
      rw [hx] at rx
      generalize hux : a.eval x = u at rx hexec
      obtain ⟨ob, hf, h⟩ := val_look h
      cases rx.inv_c with
      | row _ _ sz xs ver' ex x0 len cap hf' hv hh =>
        rw [hf] at hf'; injection hf' with hf'; subst hf'
        simp only at h
        replace h := val_and h
        obtain ⟨hb, h⟩ := h
        obtain ⟨hver, hsz⟩ := and_t hb
        have hver := beq_iff.1 hver
        have hsz := beq_iff.1 hsz
        subst hsz
        have hval := hh hver.symm
        injection hval with e1 e2 e3
        subst e1 e2 e3
        obtain ⟨ys, lg', h, hsrc⟩ := src_sound hR.inv ry h (P.cellsOf e)
        obtain ⟨r', hr', h⟩ := val_opt h
        have h1 := val_ret h
        subst h1
        obtain ⟨hroom, hys, hr''⟩ := app_spec hr'
        subst hr''
        obtain ⟨vs, hsrc⟩ := hsrc hys
        obtain ⟨g1, g2, g3, g4⟩ := hR.inv.objs n _ hf
        obtain ⟨xvs, x1, x2, x3, x4⟩ := row_vals hR.inv hf
        by_cases hfit : xs.length + ys.length ≤ (φ n).2
        · rcases g4 with ⟨k1, k2⟩ | ⟨b, cells, ty, fr, k1, k2, k3, k4, k5, k6⟩
          · have hy0 : ys = [] := List.eq_nil_of_length_eq_zero (by omega)
            have hx0 : xs = [] := List.eq_nil_of_length_eq_zero (by omega)
            subst hy0 hx0
            have hv0 : vs = [] := List.eq_nil_of_length_eq_zero (F2.length hsrc.rows).symm
            subst hv0
            have hrun := hexec (append_in (ty := o.type) (x0 := (φ n).1) (sLen := 0) (sCap := (φ n).2) hu rfl hinf hsrc hys (by simp) (w' := w) (by rw [k1]; rfl))
            have hh' := HLe.row (φ := φ) (xs' := []) (ex' := false) hf (φ n) (Nat.le_succ ver') (fun e => by omega)
            obtain ⟨i1, i2⟩ := hR.inv.change (n := n) (o' := .row (P.cellsOf e) [] (ver' + 1) false) (p := φ n) rfl rfl rfl (Nat.le_refl _) (fun _ _ _ => rfl) (Le.refl _ _) hh'
              ⟨(by intro h; cases h), by simp, by simp, .inl ⟨by rw [φset_same]; exact k1, by rw [φset_same]; exact k2⟩⟩ (fun b hb => by rw [k1] at hb; cases hb) (fun b c hb => by rw [k1] at hb; cases hb)
            refine good_upd (fz := []) (Frz.refl _ _ _ _) (.inl hrun) i1 i2 hh' ?_
            exact .c _ _ (.row n (ver' + 1) (P.cellsOf e) [] (ver' + 1) false _ _ _ (find_same _ _ _) (Nat.le_refl _) fun _ => by rw [φset_same]; rfl)
          · have hvl := F2.length hsrc.rows
            have hfl : vs.flatten.length = ys.length * P.cellsOf e := by rw [flat_length (hsrc.rows.sizes hys), hvl]
            have hp := add_parts b (xs.length * P.cellsOf e) k2
            have hroom2 : xs.length * P.cellsOf e + ys.length * P.cellsOf e ≤ (φ n).2 * P.cellsOf e := by rw [← Nat.add_mul]; exact Nat.mul_le_mul_right _ hfit
            obtain ⟨w', q1, q2, q3, q4, q5, q6, q7⟩ := run_storeCells (P := P) vs.flatten w (b.add (xs.length * P.cellsOf e)) 0 cells.toList hp.2.2 (by rw [hp.1]; simpa using k3) (by simpa using k5) (by
              intro v hv
              obtain ⟨g, hg, hvg⟩ := List.mem_flatten.1 hv
              obtain ⟨i, hi⟩ := List.getElem?_of_mem hg
              have hil : i < ys.length := by rw [hvl]; exact (List.getElem?_eq_some_iff.1 hi).1
              obtain ⟨g', hg', hr⟩ := F2.get hsrc.rows (List.getElem?_eq_getElem hil)
              rw [hi] at hg'; injection hg' with hg'; subst hg'
              obtain ⟨j, hj⟩ := List.getElem?_of_mem hvg
              have hjl : j < (ys[i]).length := by rw [hr.length]; exact (List.getElem?_eq_some_iff.1 hj).1
              obtain ⟨v', hv', hrv⟩ := hr.get (List.getElem?_eq_getElem hjl)
              rw [hj] at hv'; injection hv' with hv'; subst hv'
              exact hrv.one) (by rw [hp.2.1, hfl]; simp; omega)
            rw [hp.1] at q6 q7
            rw [hp.2.1] at q7
            simp only [Nat.add_zero] at q7
            have hrun := hexec (append_in (ty := o.type) (x0 := (φ n).1) (sLen := xs.length) (sCap := (φ n).2) hu rfl hinf hsrc hys hfit (w' := w') (by rw [k1]; exact q1))
            have hsepS : ∀ c, S c → c.block = b.block → c.off < b.off + xs.length * P.cellsOf e := fun c hc he => by
              obtain ⟨_, _, _, _, e1, _, e3⟩ := hR.inv.sep n _ b c hf k1 hc he
              injection e1 with e1 e2
              subst e1 e2; exact e3
            have hleS : Le w S w' S := fun c hc => ⟨hc, by
              by_cases he : c.block = b.block
              · have h1 := hsepS c hc he
                unfold World.cell?
                rw [he, q7, k3]
                simp only
                cases hsp : c.spot.isSome with
                | true => simp
                | false =>
                  simp only [Bool.false_eq_true, if_false, List.getElem?_toArray, splice_get]
                  rw [if_neg (by omega)]
                  simp
              · exact World.cell?_of_block (q6 _ he)⟩
            have hh' := HLe.row (φ := φ) (xs' := xs ++ ys) (ex' := false) hf (φ n) (Nat.le_succ ver') (fun e => by omega)
            obtain ⟨i1, i2⟩ := hR.inv.change (n := n) (o' := .row (P.cellsOf e) (xs ++ ys) (ver' + 1) false) (p := φ n) q2 q3 q4 (Nat.le_of_eq q5.symm) (fun k hk hne => q6 k fun e => hne _ _ hf k1 e.symm) hleS hh'
              ⟨(by intro h; cases h), by rw [φset_same]; simpa using hfit, by
                  intro c hc
                  rcases List.mem_append.1 hc with hc | hc
                  · exact g3 c hc
                  · exact hys c hc, .inr ⟨b, _, ty, fr, by rw [φset_same]; exact k1, k2, q7, by rw [φset_same]; simp [splice_len]; exact k4, by simpa [splice_len] using k5, by
                  intro i j e' d hi hj
                  simp only [List.getElem?_toArray, splice_get, Array.length_toList, Array.getElem?_toList]
                  by_cases hlt : i < xs.length
                  · rw [List.getElem?_append_left hlt] at hi
                    obtain ⟨v, hv, hrv⟩ := k6 i j e' d hi hj
                    refine ⟨v, ?_, hrv.mono hleS⟩
                    have hjl : j < P.cellsOf e := by rw [← g3 e' (List.mem_of_getElem? hi)]; exact (List.getElem?_eq_some_iff.1 hj).1
                    have := lt_of_cells hlt hjl
                    rw [if_neg (by omega)]
                    exact hv
                  · rw [List.getElem?_append_right (by omega)] at hi
                    have hil : i - xs.length < ys.length := (List.getElem?_eq_some_iff.1 hi).1
                    have hjl : j < P.cellsOf e := by rw [← hys e' (List.mem_of_getElem? hi)]; exact (List.getElem?_eq_some_iff.1 hj).1
                    obtain ⟨g, hg, hr⟩ := F2.get hsrc.rows hi
                    obtain ⟨v, hv, hrv⟩ := hr.get hj
                    refine ⟨v, ?_, hrv.mono hleS⟩
                    have h1 := flat_get (hsrc.rows.sizes hys) hg hv
                    have h2 := lt_of_cells hil hjl
                    have h3 : i * P.cellsOf e = xs.length * P.cellsOf e + (i - xs.length) * P.cellsOf e := by rw [← Nat.add_mul]; congr 1; omega
                    rw [if_pos ⟨by omega, by omega, by omega⟩]
                    rw [← h1]; congr 1; omega⟩⟩
              (fun c hc => .inl ⟨_, _, hf, hc, rfl⟩)
              (fun c dd hc hd he => by
                rw [k1] at hc; injection hc with hc; subst hc
                obtain ⟨_, _, _, _, e1, e2, e3⟩ := hR.inv.sep n _ b dd hf k1 hd he
                injection e1 with e1 e4
                subst e1 e4
                exact ⟨_, _, _, _, rfl, e2, by
                  have : xs.length * P.cellsOf e ≤ (xs ++ ys).length * P.cellsOf e := Nat.mul_le_mul_right _ (by simp)
                  omega⟩)
            refine good_upd (fz := []) (Frz.refl _ _ _ _) (.inl hrun) i1 i2 hh' ?_
            exact .c _ _ (.row n (ver' + 1) (P.cellsOf e) (xs ++ ys) (ver' + 1) false _ _ _ (find_same _ _ _) (Nat.le_refl _) fun _ => by rw [φset_same]; simp)
        · obtain ⟨w', cap, rest, hrun, q1, q2, q3, q4, q5, q6⟩ := append_new (ty := o.type) (x0 := (φ n).1) (sLen := xs.length) (sCap := (φ n).2) (xvs := xvs) hu hzc hsrc hys x2 x3 x4 (by omega) hb1 hroom
          have hleS : Le w S w' S := fun c hc => ⟨hc, World.cell?_of_block (by rw [q5]; exact heap_push_lt (hR.inv.alloc c hc))⟩
          have hh' := HLe.row (φ := φ) (xs' := xs ++ ys) (ex' := false) hf (some ⟨w.heap.size, 0, none⟩, cap) (Nat.le_succ ver') (fun e => by omega)
          obtain ⟨i1, i2⟩ := hR.inv.change (n := n) (o' := .row (P.cellsOf e) (xs ++ ys) (ver' + 1) false) (p := (some ⟨w.heap.size, 0, none⟩, cap)) q1 q2 q3 (by rw [q5]; simp) (fun k hk _ => by rw [q5]; exact heap_push_lt hk) hleS hh'
            (grown_ok q5 x1 hsrc.rows g3 hys q4 q6 hleS) (fun b hb => .inr (by injection hb with hb; subst hb; exact Nat.le_refl _))
            (fun b c hb hc he => by
              injection hb with hb; subst hb
              have := hR.inv.alloc c hc
              simp at he; omega)
          refine good_upd (fz := []) (Frz.refl _ _ _ _) (.inl (hexec hrun)) i1 i2 hh' ?_
          exact .c _ _ (.row n (ver' + 1) (P.cellsOf e) (xs ++ ys) (ver' + 1) false _ _ _ (find_same _ _ _) (Nat.le_refl _) fun _ => by rw [φset_same]; simp)
    · exact (val_fail h).elim
  · exact (val_fail h).elim

/-! ### Builtins -/
theorem listOf2 {α : Type} {arr : Array α} {l : List α} (h : arr.toList = l) : arr = l.toArray := by rw [← h]
theorem builtin_good (hR : Rst N st a w S φ) {c : Call} {b : Builtin} (ho : o.op = .call c) (hc : c.callee = .builtin b) (h : (builtinM P (meOf o) b c.argTypes.toList (c.args.toList.map (ev st.F))).val call st.H st.Z lg = some r) (hnew : newOk st.H o.dst r.1.new = true) : Good P o st a w S φ r.1 := by
  have hargs : F2 (RelV w S st.H φ) (c.args.toList.map (ev st.F)) (c.args.toList.map a.eval) := by
    generalize c.args.toList = l
    induction l with
    | nil => exact .nil
    | cons x l ih => exact .cons (hR.ev x) ih
  unfold builtinM at h
  split at h
  · rename_i t x hts has
    have ht : c.argTypes = #[t] := listOf2 hts
    obtain ⟨y, hy⟩ : ∃ y, c.args = #[y] := by
      have : c.args.toList.length = 1 := by have := congrArg List.length has; simpa using this
      match h' : c.args.toList, this with
      | [y], _ => exact ⟨y, listOf2 h'⟩
    have hx : ev st.F y = x := by simp [hy] at has; exact has
    obtain ⟨n, h1, hrun⟩ := len_run (P := P) (ty := o.type) (ts := #[t]) (us := #[a.eval y]) (t := t) (u := a.eval y) rfl rfl hR.inv (by rw [← hx]; exact hR.ev y) h
    rw [h1]
    exact good_pure hR (run_callB ho hc (by simp [builtin, ht, hy, hrun])) (relInt _ _)
  · rename_i t t' x y hts has
    have ht : c.argTypes = #[t, t'] := listOf2 hts
    obtain ⟨p, q, hy⟩ : ∃ p q, c.args = #[p, q] := by
      have : c.args.toList.length = 2 := by have := congrArg List.length has; simpa using this
      match h' : c.args.toList, this with
      | [p, q], _ => exact ⟨p, q, listOf2 h'⟩
    have hx : ev st.F p = x ∧ ev st.F q = y := by simp [hy] at has; exact has
    obtain ⟨rfl, rfl⟩ := hx
    exact append_good hR ho hc ht hy h hnew
  · unfold extM at h
    split at h
    · rename_i k n rest has
      split at h
      · rename_i v hv
        obtain ⟨h1, _⟩ := val_pure h
        rw [h1]
        rw [has] at hargs
        obtain ⟨us, hus⟩ : ∃ us, c.args.toList.map a.eval = us := ⟨_, rfl⟩
        rw [hus] at hargs
        cases hargs with
        | cons g1 g2 =>
          rename_i u us
          have g1 := g1.inv_d.inv_int
          subst g1
          obtain ⟨m, rfl, hrun⟩ := min_fold (P := P) _ _ _ _ g2 hv
          refine good_pure hR (run_callB ho hc ?_) (relInt _ _)
          simp [builtin, Builtin.min_, hus, hrun]
      · exact (val_fail h).elim
    · exact (val_fail h).elim
  · unfold extM at h
    split at h
    · rename_i k n rest has
      split at h
      · rename_i v hv
        obtain ⟨h1, _⟩ := val_pure h
        rw [h1]
        rw [has] at hargs
        obtain ⟨us, hus⟩ : ∃ us, c.args.toList.map a.eval = us := ⟨_, rfl⟩
        rw [hus] at hargs
        cases hargs with
        | cons g1 g2 =>
          rename_i u us
          have g1 := g1.inv_d.inv_int
          subst g1
          obtain ⟨m, rfl, hrun⟩ := max_fold (P := P) _ _ _ _ g2 hv
          refine good_pure hR (run_callB ho hc ?_) (relInt _ _)
          simp [builtin, Builtin.max_, hus, hrun]
      · exact (val_fail h).elim
    · exact (val_fail h).elim
  · exact (val_fail h).elim

/-! ### Structs compared -/
theorem eqFields_run {us vs : Array Value} {d : Nat} {H : List (Nat × O)} : ∀ (fs : List Field) (i : Nat) (xs ys : List C) (b : Bool), eqFlat P i fs xs ys = some b → F2 (RelC w S H φ) xs (us.toList.drop i) → F2 (RelC w S H φ) ys (vs.toList.drop i) → (Op.eqFields (d + 1) us vs fs).run P w = .ok b w
  | [], i, [], [], b, he, hx, hy => by
    simp only [eqFlat, Option.some.injEq] at he; subst he; simp [Op.eqFields]
  | [], i, x :: xs, ys, b, he, hx, hy => by simp [eqFlat] at he
  | [], i, [], y :: ys, b, he, hx, hy => by simp [eqFlat] at he
  | f :: fs, i, [], ys, b, he, hx, hy => by simp [eqFlat] at he
  | f :: fs, i, x :: xs, [], b, he, hx, hy => by simp [eqFlat] at he
  | f :: fs, i, x :: xs, y :: ys, b, he, hx, hy => by
    simp only [eqFlat] at he
    cases hb : Nat.beq f.offset i && !(f.name == "_") with
    | false => rw [hb] at he; cases he
    | true =>
      rw [hb] at he
      simp only [cond_true] at he
      obtain ⟨hoff, hname⟩ := and_t hb
      have hoff := beq_iff.1 hoff
      have hname : f.name ≠ "_" := by simpa using hname
      generalize hux : us.toList.drop i = ul at hx
      generalize huy : vs.toList.drop i = vl at hy
      have tail : ∀ {arr : Array Value} {u : Value} {l : List Value}, arr.toList.drop i = u :: l → arr[i]? = some u ∧ arr.toList.drop (i + 1) = l := by
        intro arr u l h
        have h1 : (arr.toList.drop i)[0]? = some u := by rw [h]; rfl
        refine ⟨by simpa using h1, ?_⟩
        rw [← List.drop_drop, h]; rfl
      cases hx with
      | cons hx1 hx2 =>
        cases hy with
        | cons hy1 hy2 =>
          rename_i u us' v vs'
          obtain ⟨p1, p2⟩ := tail hux
          obtain ⟨q1, q2⟩ := tail huy
          have key : ∀ {e : Bool} {dd : TypeDesc}, P.underlying f.type = some dd → isAggT P f.type = false → (Op.equalIn (d + 1) f.type u v).run P w = .ok e w → ((eqFlat P (i + 1) fs xs ys).bind fun r => some (e && r)) = some b → (Op.eqFields (d + 1) us vs (f :: fs)).run P w = .ok b w := by
            intro e dd hu ha hee hr
            have hpart1 : (part f.type us f.offset).run P w = .ok u w := run_part_one hu ha (by rw [hoff]; exact p1)
            have hpart2 : (part f.type vs f.offset).run P w = .ok v w := run_part_one hu ha (by rw [hoff]; exact q1)
            cases hr' : eqFlat P (i + 1) fs xs ys with
            | none => simp [hr'] at hr
            | some r =>
              simp [hr'] at hr
              subst hr
              have ih := eqFields_run (d := d) fs (i + 1) xs ys r hr' (by rw [p2]; exact hx2) (by rw [q2]; exact hy2)
              simp only [Op.eqFields, hname, ne_eq, not_false_eq_true, if_true, Sem.run_bind, hpart1, hpart2, Result.andThen_ok, hee]
              cases e with
              | false => simp
              | true => simpa using ih
          split at he
          · rename_i k0 k a' k' b' hu
            cases hk : kEq k k' with
            | false => simp [hk] at he
            | true =>
              have := kEq_iff.1 hk
              subst this
              simp only [hk, cond_true] at he
              cases hx1 with
              | d _ _ hx1 => cases hy1 with
                | d _ _ hy1 =>
                  have g1 := hx1.inv_int
                  have g2 := hy1.inv_int
                  subst g1 g2
                  exact key hu (by simp [isAggT, hu]) (by rw [run_equalIn_int w d _ _ _ _ _ hu, beq_dec]) he
          · rename_i a' b' hu
            cases hx1 with
            | d _ _ hx1 => cases hy1 with
              | d _ _ hy1 =>
                have g1 := hx1.inv_bool
                have g2 := hy1.inv_bool
                subst g1 g2
                exact key hu (by simp [isAggT, hu]) (by rw [run_equalIn_bool' w d _ _ _ hu]) he
          · rename_i a' b' hu
            cases hx1 with
            | d _ _ hx1 => cases hy1 with
              | d _ _ hy1 =>
                have g1 := hx1.inv_str
                have g2 := hy1.inv_str
                subst g1 g2
                refine key hu (by simp [isAggT, hu]) ?_ he
                rw [run_equalIn_string w d _ _ _ hu]
                congr 1
                rw [Bool.eq_iff_iff]; simp
          · cases he
theorem bin_agg_good (hR : Rst N st a w S φ) {op : BinOp} {t t' : TypeId} {x y : Operand} (ho : o.op = .binOp op t x y t') {xs ys : List C} (hx : ev st.F x = .agg xs) (hy : ev st.F y = .agg ys)
    (h : (binM P op t (ev st.F x) (ev st.F y)).val call st.H st.Z lg = some r) : Good P o st a w S φ r.1 := by
  have rx := hR.ev x
  have ry := hR.ev y
  rw [hx] at rx; rw [hy] at ry
  rw [hx, hy] at h
  simp only [binM, eqAgg] at h
  split at h
  · rename_i fs hu
    split at h
    · rename_i b hb
      replace h := val_and h
      obtain ⟨hg, h⟩ := h
      obtain ⟨hg, hst⟩ := and_t hg
      have hg : P.eqGuardType P.depth t = false := by simpa using hg
      have hst : P.stoodInHeld t = false := by simpa using hst
      generalize hux : a.eval x = u at rx
      generalize huy : a.eval y = v at ry
      cases rx with
      | agg _ us h1 => cases ry with
        | agg _ vs h2 =>
          have hfs : P.fieldsOf t = fs := by simp [Program.fieldsOf, hu]
          have hrun := eqFields_run (P := P) (us := us.toArray) (vs := vs.toArray) (d := 9998) fs.toList 0 xs ys b hb (by simpa using h1) (by simpa using h2)
          have heq : (Op.equalIn 10000 t (.agg us.toArray) (.agg vs.toArray)).run P w = .ok b w := by
            rw [run_equalIn_agg w 9999 t _ _ (by rw [hfs]; exact hu) hst, hfs]; exact hrun
          split at h
          · obtain ⟨h1, _⟩ := val_pure h
            rw [h1]
            refine good_pure hR (u := .bool b) ?_ (relBool _)
            simp only [execOp, ho, hux, huy, Sem.run_bind, run_eqGuard_agg w _ _ _ _ _ _ hg, Result.andThen_ok, run_eql_struct, heq, Sem.run_pure]
          · obtain ⟨h1, _⟩ := val_pure h
            rw [h1]
            refine good_pure hR (u := .bool (!b)) ?_ (relBool _)
            simp only [execOp, ho, hux, huy, Sem.run_bind, run_eqGuard_agg w _ _ _ _ _ _ hg, Result.andThen_ok, run_neq_struct, heq, Sem.run_pure]
          · exact (val_fail h).elim
    · exact (val_fail h).elim
  · exact (val_fail h).elim
end
end Go.Proofs.YtcpidokhkcmdfaaGreat.I

/-! What a call is handed, and what it hands back. Conditions: those of each theorem. -/
namespace Go.Proofs.YtcpidokhkcmdfaaGreat.I
open Go
set_option linter.unusedVariables false
set_option linter.unusedSimpArgs false

theorem find_number {α : Type} : ∀ (l : List α) (i n : Nat), find (number i l) n = if i ≤ n then l[n - i]? else none
  | [], i, n => by simp [number, find]
  | a :: l, i, n => by
    simp only [number, find_cons, find_number l (i + 1) n]
    by_cases h : i = n
    · subst h; simp
    · by_cases h2 : i ≤ n
      · have : n - i = (n - (i + 1)) + 1 := by omega
        rw [if_neg h, if_pos h2, if_pos (by omega), this, List.getElem?_cons_succ]
      · rw [if_neg h, if_neg h2, if_neg (by omega)]
/-- An object as it is handed. -/
def ob (H : List (Nat × O)) (n : Nat) : O := match find H n with
  | some (.box cs) => .box cs
  | some (.row sz xs _ _) => .row sz xs 0 false
  | none => .box []
def Hn (H : List (Nat × O)) (names : List Nat) : List (Nat × O) := number 0 (names.map (ob H))
def φn (φ : Place) (names : List Nat) : Place := fun j => match names[j]? with
  | some n => φ n
  | none => (none, 0)
theorem find_Hn (H : List (Nat × O)) (names : List Nat) (j : Nat) : find (Hn H names) j = (names[j]?).map (ob H) := by
  simp [Hn, find_number]
theorem prefix_get {α : Type} {l l' : List α} (h : l <+: l') {j : Nat} {x : α} (hj : l[j]? = some x) : l'[j]? = some x := by
  obtain ⟨t, rfl⟩ := h
  rw [List.getElem?_append_left (List.getElem?_eq_some_iff.1 hj).1]; exact hj
theorem Hn_le {H : List (Nat × O)} {φ : Place} {names names' : List Nat} (h : names <+: names') : HLe (Hn H names) (φn φ names) (Hn H names') (φn φ names') := by
  intro j o hj
  rw [find_Hn] at hj
  cases hn : names[j]? with
  | none => simp [hn] at hj
  | some n =>
    have hn' := prefix_get h hn
    simp [hn] at hj
    have hf : find (Hn H names') j = some o := by rw [find_Hn, hn']; simp [hj]
    have hp : φn φ names' j = φn φ names j := by simp [φn, hn, hn']
    cases o with
    | box cs => exact ⟨⟨cs, hf⟩, by rw [hp]⟩
    | row sz xs ver ex => exact ⟨xs, ver, ex, hf, Nat.le_refl _, fun _ => ⟨rfl, hp⟩⟩
theorem idxOf_some : ∀ {l : List Nat} {n j : Nat}, idxOf l n = some j → l[j]? = some n
  | [], n, j, h => by simp [idxOf] at h
  | m :: l, n, j, h => by
    simp only [idxOf] at h
    by_cases e : m = n
    · subst e; simp at h; subst h; rfl
    · simp only [beq_ne e, cond_false] at h
      cases hi : idxOf l n with
      | none => simp [hi] at h
      | some i => simp [hi] at h; subst h; simpa using idxOf_some hi
theorem idxOf_none : ∀ {l : List Nat} {n : Nat}, idxOf l n = none → n ∉ l
  | [], n, h => by simp
  | m :: l, n, h => by
    simp only [idxOf] at h
    by_cases e : m = n
    · subst e; simp at h
    · simp only [beq_ne e, cond_false] at h
      cases hi : idxOf l n with
      | none => simp [Ne.symm e, idxOf_none hi]
      | some i => simp [hi] at h
/-- A heap with more in it. -/
def Ext (H : List (Nat × O)) (φ : Place) (H0 : List (Nat × O)) (φ0 : Place) : Prop := ∀ n o, find H n = some o → find H0 n = some o ∧ φ0 n = φ n
theorem Ext.le {H : List (Nat × O)} {φ : Place} {H0 : List (Nat × O)} {φ0 : Place} (h : Ext H φ H0 φ0) : HLe H φ H0 φ0 := by
  intro n o hn
  obtain ⟨h1, h2⟩ := h n o hn
  cases o with
  | box cs => exact ⟨⟨cs, h1⟩, by rw [h2]⟩
  | row sz xs ver ex => exact ⟨xs, ver, ex, h1, Nat.le_refl _, fun _ => ⟨rfl, h2⟩⟩
/-- How what is handed grows. -/
structure AccLe (a a' : Acc) : Prop where
  pre : a.names <+: a'.names
  nodup : a.names.Nodup → a'.names.Nodup
  made : a.made = true → a'.made = true
theorem AccLe.refl (a : Acc) : AccLe a a := ⟨List.prefix_refl _, id, id⟩
theorem AccLe.trans {a b c : Acc} (h : AccLe a b) (h' : AccLe b c) : AccLe a c := ⟨h.pre.trans h'.pre, fun x => h'.nodup (h.nodup x), fun x => h'.made (h.made x)⟩
section
variable {α : Type} {call : Oracle} {H : List (Nat × O)} {Z : List Nat} {lg : List Nat} {r : α × List Nat} {w : World} {φ : Place}

/-- What is handed stands so, whatever the heap with the empty row in it. -/
def CellOk (w : World) (Z : List Nat) (H0 : List (Nat × O)) (φ0 : Place) (a a' : Acc) (R R' : (Addr → Prop) → Prop) : Prop := ∀ S, Inv w S H0 (a.fz ++ Z) φ0 → R S → ∃ S', Inv w S' H0 (a'.fz ++ Z) φ0 ∧ Frz w H0 φ0 S S' ∧ R' S'
theorem conv0_sound {c : C} {a : Acc} {k : C → Acc → M α} (h : (conv0 c a k).val call H Z lg = some r) : ∃ c' a' lg', (k c' a').val call H Z lg' = some r ∧ AccLe a a' ∧ a'.made = a.made ∧
    ∀ w φ H0 φ0 v, Ext H φ H0 φ0 → CellOk w Z H0 φ0 a a' (fun S => RelC w S H φ c v) (fun S => RelC w S (Hn H0 a'.names) (φn φ0 a'.names) c' v) := by
  unfold conv0 at h
  split at h
  · rename_i xs
    refine ⟨_, _, _, h, AccLe.refl _, rfl, fun w φ H0 φ0 v he S hi hr => ⟨S, hi, Frz.refl _ _ _ _, ?_⟩⟩
    cases hr with
    | d _ _ hd => exact .d _ _ hd.weak
  · rename_i x
    refine ⟨_, _, _, h, AccLe.refl _, rfl, fun w φ H0 φ0 v he S hi hr => ⟨S, hi, Frz.refl _ _ _ _, ?_⟩⟩
    cases hr with
    | d _ _ hd => exact .d _ _ hd
  · refine ⟨_, _, _, h, AccLe.refl _, rfl, fun w φ H0 φ0 v he S hi hr => ⟨S, hi, Frz.refl _ _ _ _, ?_⟩⟩
    cases hr
    exact .d _ _ (.sl _ [] none 0 0 (fun _ _ => undef) (.inl rfl) (Nat.le_refl _) (by simp) (.inl rfl) (by simp))
  · refine ⟨_, _, _, h, AccLe.refl _, rfl, fun w φ H0 φ0 v he S hi hr => ⟨S, hi, Frz.refl _ _ _ _, ?_⟩⟩
    cases hr; exact .nilp
  · refine ⟨_, _, _, h, AccLe.refl _, rfl, fun w φ H0 φ0 v he S hi hr => ⟨S, hi, Frz.refl _ _ _ _, ?_⟩⟩
    cases hr; exact .nilf
  · rename_i n ver
    obtain ⟨o, hf, h⟩ := val_look h
    split at h
    · rename_i sz xs v ex
      obtain ⟨hb, h2⟩ := val_and h
      have hb := beq_iff.1 hb
      subst hb
      refine ⟨_, _, _, h2, ⟨List.prefix_refl _, id, id⟩, rfl, fun w φ H0 φ0 u he S hi hr => ?_⟩
      cases hr with
      | row _ _ sz' xs' ver' ex' x0 len cap hf' hv' h' =>
        rw [hf] at hf'; injection hf' with hf'; injection hf' with e1 e2 e3 e4
        subst e1 e2 e3 e4
        obtain ⟨hf0, hφ⟩ := he n _ hf
        obtain ⟨S', k1, k2, k3, _⟩ := hi.freeze hf0
        refine ⟨S', k1, k2, .d _ _ ?_⟩
        rw [h' rfl, ← hφ]; exact k3
    · exact (val_fail h).elim
  · rename_i n off
    split at h
    · rename_i j hj
      refine ⟨_, _, _, h, AccLe.refl _, rfl, fun w φ H0 φ0 v he S hi hr => ⟨S, hi, Frz.refl _ _ _ _, ?_⟩⟩
      cases hr with
      | ptr _ _ cs b hf hb =>
        obtain ⟨h1, h2⟩ := he n _ hf
        have hn := idxOf_some hj
        refine .ptr j off cs b (by rw [find_Hn, hn]; simp [ob, h1]) (by simp [φn, hn, h2, hb])
    · rename_i hj
      have hnn := idxOf_none hj
      refine ⟨_, _, _, h, ⟨List.prefix_append _ _, fun hd => ?_, id⟩, rfl, fun w φ H0 φ0 v he S hi hr => ⟨S, hi, Frz.refl _ _ _ _, ?_⟩⟩
      · show (a.names ++ [n]).Nodup
        rw [List.nodup_append]
        exact ⟨hd, by simp, by intro x hx y hy; simp at hy; subst hy; intro e; subst e; exact hnn hx⟩
      · cases hr with
        | ptr _ _ cs b hf hb =>
          obtain ⟨h1, h2⟩ := he n _ hf
          have hn : (a.names ++ [n])[a.names.length]? = some n := by simp
          refine .ptr _ off cs b (by rw [find_Hn, hn]; simp [ob, h1]) (by simp [φn, h2, hb])
  · exact (val_fail h).elim
theorem convs0_sound : ∀ {cs : List C} {a : Acc} {lg : List Nat} {k : List C → Acc → M α}, (convs0 cs a k).val call H Z lg = some r → ∃ cs' a' lg', (k cs' a').val call H Z lg' = some r ∧ AccLe a a' ∧ a'.made = a.made ∧
    ∀ w φ H0 φ0 vs, Ext H φ H0 φ0 → CellOk w Z H0 φ0 a a' (fun S => F2 (RelC w S H φ) cs vs) (fun S => F2 (RelC w S (Hn H0 a'.names) (φn φ0 a'.names)) cs' vs)
  | [], a, lg, k, h => ⟨[], a, lg, h, AccLe.refl _, rfl, fun w φ H0 φ0 vs he S hi hr => ⟨S, hi, Frz.refl _ _ _ _, by cases hr; exact .nil⟩⟩
  | c :: cs, a, lg, k, h => by
    simp only [convs0] at h
    obtain ⟨c', a1, lg1, h1, l1, m1, s1⟩ := conv0_sound h
    obtain ⟨cs', a2, lg2, h2, l2, m2, s2⟩ := convs0_sound h1
    refine ⟨c' :: cs', a2, lg2, h2, l1.trans l2, m2.trans m1, fun w φ H0 φ0 vs he S hi hr => ?_⟩
    cases hr with
    | cons hr1 hr2 =>
      obtain ⟨S1, i1, f1, r1⟩ := s1 w φ H0 φ0 _ he S hi hr1
      obtain ⟨S2, i2, f2, r2⟩ := s2 w φ H0 φ0 _ he S1 i1 (hr2.mono fun _ _ h => h.mono f1.le (HLe.refl _ _))
      exact ⟨S2, i2, f1.trans f2, .cons (r1.mono f2.le (Hn_le l2.pre)) r2⟩
theorem conv_sound {c : C} {a : Acc} {k : C → Acc → M α} (h : (conv c a k).val call H Z lg = some r) : ∃ c' a' lg', (k c' a').val call H Z lg' = some r ∧ AccLe a a' ∧ a'.made = a.made ∧
    ∀ w φ H0 φ0 v, Ext H φ H0 φ0 → CellOk w Z H0 φ0 a a' (fun S => RelC w S H φ c v) (fun S => RelC w S (Hn H0 a'.names) (φn φ0 a'.names) c' v) := by
  unfold conv at h
  split at h
  · rename_i f caps
    obtain ⟨cs', a1, lg1, h1, l1, m1, s1⟩ := convs0_sound h
    refine ⟨_, _, _, h1, l1, m1, fun w φ H0 φ0 v he S hi hr => ?_⟩
    cases hr with
    | fn _ _ vs hl hh =>
      obtain ⟨S1, i1, f1, r1⟩ := s1 w φ H0 φ0 vs he S hi (F2.of hl hh)
      refine ⟨S1, i1, f1, .fn f cs' vs r1.length fun i c v hc hv => ?_⟩
      obtain ⟨v', hv', hrc⟩ := r1.get hc
      rw [hv] at hv'; injection hv' with hv'; subst hv'
      exact hrc
  · exact conv0_sound h
theorem convs_sound : ∀ {cs : List C} {a : Acc} {lg : List Nat} {k : List C → Acc → M α}, (convs cs a k).val call H Z lg = some r → ∃ cs' a' lg', (k cs' a').val call H Z lg' = some r ∧ AccLe a a' ∧ a'.made = a.made ∧
    ∀ w φ H0 φ0 vs, Ext H φ H0 φ0 → CellOk w Z H0 φ0 a a' (fun S => F2 (RelC w S H φ) cs vs) (fun S => F2 (RelC w S (Hn H0 a'.names) (φn φ0 a'.names)) cs' vs)
  | [], a, lg, k, h => ⟨[], a, lg, h, AccLe.refl _, rfl, fun w φ H0 φ0 vs he S hi hr => ⟨S, hi, Frz.refl _ _ _ _, by cases hr; exact .nil⟩⟩
  | c :: cs, a, lg, k, h => by
    simp only [convs] at h
    obtain ⟨c', a1, lg1, h1, l1, m1, s1⟩ := conv_sound h
    obtain ⟨cs', a2, lg2, h2, l2, m2, s2⟩ := convs_sound h1
    refine ⟨c' :: cs', a2, lg2, h2, l1.trans l2, m2.trans m1, fun w φ H0 φ0 vs he S hi hr => ?_⟩
    cases hr with
    | cons hr1 hr2 =>
      obtain ⟨S1, i1, f1, r1⟩ := s1 w φ H0 φ0 _ he S hi hr1
      obtain ⟨S2, i2, f2, r2⟩ := s2 w φ H0 φ0 _ he S1 i1 (hr2.mono fun _ _ h => h.mono f1.le (HLe.refl _ _))
      exact ⟨S2, i2, f1.trans f2, .cons (r1.mono f2.le (Hn_le l2.pre)) r2⟩
/-- The empty row stands under its name, if one was made. -/
def MadeOk (me sz : Nat) (a : Acc) (H0 : List (Nat × O)) (φ0 : Place) : Prop := a.made = true → find H0 me = some (.row sz [] 0 false) ∧ φ0 me = (none, 0)
theorem convRow_sound {me : Nat} {v : V} {a : Acc} {k : C → Acc → M α} (h : (convRow me v a k).val call H Z lg = some r) : ∃ c' a' lg', (k c' a').val call H Z lg' = some r ∧ AccLe a a' ∧ (a'.made = true → a.made = true ∨ (find H me = none ∧ 1000 ≤ me ∧ me ∈ a'.names)) ∧
    ∀ w φ H0 φ0 u sz, Ext H φ H0 φ0 → MadeOk me sz a' H0 φ0 → CellOk w Z H0 φ0 a a' (fun S => RelV w S H φ v u) (fun S => RelC w S (Hn H0 a'.names) (φn φ0 a'.names) c' u) := by
  unfold convRow at h
  split at h
  · rename_i n ver
    obtain ⟨o, hf, h⟩ := val_look h
    split at h
    · rename_i sz xs vv ex
      obtain ⟨hb, h2⟩ := val_and h
      obtain ⟨hb, hnm⟩ := and_t hb
      have hb := beq_iff.1 hb
      subst hb
      have hnn : n ∉ a.names := by
        intro hc
        rw [(memb_iff a.names n).2 hc] at hnm; cases hnm
      obtain ⟨hl, h3⟩ := val_live h2
      refine ⟨_, _, _, h3, ⟨List.prefix_append _ _, fun hd => ?_, id⟩, .inl, fun w φ H0 φ0 u sz0 he hm S hi hr => ⟨S, hi, Frz.refl _ _ _ _, ?_⟩⟩
      · show (a.names ++ [n]).Nodup
        rw [List.nodup_append]
        exact ⟨hd, by simp, by intro x hx y hy; simp at hy; subst hy; intro e; subst e; exact hnn hx⟩
      · cases hr.inv_c with
        | row _ _ sz' xs' ver' ex' x0 len cap hf' hv' h' =>
          rw [hf] at hf'; injection hf' with hf'; injection hf' with e1 e2 e3 e4
          subst e1 e2 e3 e4
          obtain ⟨hf0, hφ⟩ := he n _ hf
          have hn : (a.names ++ [n])[a.names.length]? = some n := by simp
          rw [h' rfl]
          refine .row _ 0 sz xs 0 false _ _ _ (by rw [find_Hn, hn]; simp [ob, hf0]) (Nat.le_refl _) fun _ => ?_
          simp [φn, hφ]
    · exact (val_fail h).elim
  · rcases val_bif h with ⟨_, h⟩ | ⟨hb, h⟩
    · exact (val_fail h).elim
    · obtain ⟨hg, h⟩ := val_gone h
      have hb' : memb a.names me = false ∧ a.made = false ∧ Nat.ble 1000 me = true := by
        cases h1 : memb a.names me <;> cases h2 : a.made <;> cases h3 : Nat.ble 1000 me <;> simp_all
      have hnn : me ∉ a.names := by
        intro hc
        rw [(memb_iff a.names me).2 hc] at hb'; cases hb'.1
      refine ⟨_, _, _, h, ⟨List.prefix_append _ _, fun hd => ?_, fun _ => rfl⟩, fun _ => .inr ⟨hg, Nat.le_of_ble_eq_true hb'.2.2, by simp⟩, fun w φ H0 φ0 u sz0 he hm S hi hr => ⟨S, hi, Frz.refl _ _ _ _, ?_⟩⟩
      · show (a.names ++ [me]).Nodup
        rw [List.nodup_append]
        exact ⟨hd, by simp, by intro x hx y hy; simp at hy; subst hy; intro e; subst e; exact hnn hx⟩
      · cases hr.inv_c
        obtain ⟨hf0, hφ⟩ := hm rfl
        have hn : (a.names ++ [me])[a.names.length]? = some me := by simp
        refine .row _ 0 sz0 [] 0 false _ _ _ (by rw [find_Hn, hn]; simp [ob, hf0]) (Nat.le_refl _) fun _ => ?_
        simp [φn, hφ]
  · exact (val_fail h).elim
theorem convV_sound {me : Nat} {hh : Hint} {i : Nat} {v : V} {a : Acc} {k : V → Acc → M α} (h : (convV me hh i v a k).val call H Z lg = some r) : ∃ v' a' lg', (k v' a').val call H Z lg' = some r ∧ AccLe a a' ∧ (a'.made = true → a.made = true ∨ (find H me = none ∧ 1000 ≤ me ∧ me ∈ a'.names)) ∧
    ∀ w φ H0 φ0 u sz, Ext H φ H0 φ0 → MadeOk me sz a' H0 φ0 → CellOk w Z H0 φ0 a a' (fun S => RelV w S H φ v u) (fun S => RelV w S (Hn H0 a'.names) (φn φ0 a'.names) v' u) := by
  unfold convV at h
  rcases val_bif h with ⟨_, h⟩ | ⟨_, h⟩
  · obtain ⟨c', a', lg', h1, l1, m1, s1⟩ := convRow_sound h
    refine ⟨_, _, _, h1, l1, m1, fun w φ H0 φ0 u sz he hm S hi hr => ?_⟩
    obtain ⟨S1, i1, f1, r1⟩ := s1 w φ H0 φ0 u sz he hm S hi hr
    exact ⟨S1, i1, f1, .c _ _ r1⟩
  · split at h
    · rename_i x
      obtain ⟨c', a', lg', h1, l1, m1, s1⟩ := conv_sound h
      refine ⟨_, _, _, h1, l1, fun e => .inl (m1 ▸ e), fun w φ H0 φ0 u sz he hm S hi hr => ?_⟩
      obtain ⟨S1, i1, f1, r1⟩ := s1 w φ H0 φ0 u he S hi hr.inv_c
      exact ⟨S1, i1, f1, .c _ _ r1⟩
    · rename_i cs
      obtain ⟨cs', a', lg', h1, l1, m1, s1⟩ := convs_sound h
      refine ⟨_, _, _, h1, l1, fun e => .inl (m1 ▸ e), fun w φ H0 φ0 u sz he hm S hi hr => ?_⟩
      cases hr with
      | agg _ vs hr =>
        obtain ⟨S1, i1, f1, r1⟩ := s1 w φ H0 φ0 vs he S hi hr
        exact ⟨S1, i1, f1, .agg _ _ r1⟩
    · exact (val_fail h).elim
theorem convVs_sound {me : Nat} {hh : Hint} : ∀ {vs : List V} {i : Nat} {a : Acc} {lg : List Nat} {k : List V → Acc → M α}, (convVs me hh i vs a k).val call H Z lg = some r → ∃ vs' a' lg', (k vs' a').val call H Z lg' = some r ∧ AccLe a a' ∧ (a'.made = true → a.made = true ∨ (find H me = none ∧ 1000 ≤ me ∧ me ∈ a'.names)) ∧
    ∀ w φ H0 φ0 us sz, Ext H φ H0 φ0 → MadeOk me sz a' H0 φ0 → CellOk w Z H0 φ0 a a' (fun S => F2 (RelV w S H φ) vs us) (fun S => F2 (RelV w S (Hn H0 a'.names) (φn φ0 a'.names)) vs' us)
  | [], i, a, lg, k, h => ⟨[], a, lg, h, AccLe.refl _, .inl, fun w φ H0 φ0 us sz he hm S hi hr => ⟨S, hi, Frz.refl _ _ _ _, by cases hr; exact .nil⟩⟩
  | v :: vs, i, a, lg, k, h => by
    simp only [convVs] at h
    obtain ⟨v', a1, lg1, h1, l1, m1, s1⟩ := convV_sound h
    obtain ⟨vs', a2, lg2, h2, l2, m2, s2⟩ := convVs_sound h1
    refine ⟨v' :: vs', a2, lg2, h2, l1.trans l2, fun e => ?_, fun w φ H0 φ0 us sz he hm S hi hr => ?_⟩
    · rcases m2 e with e1 | ⟨e1, e2, e3⟩
      · rcases m1 e1 with e2 | ⟨e2, e3, e4⟩
        · exact .inl e2
        · exact .inr ⟨e2, e3, l2.pre.subset e4⟩
      · exact .inr ⟨e1, e2, e3⟩
    · cases hr with
      | cons hr1 hr2 =>
        obtain ⟨S1, i1, f1, r1⟩ := s1 w φ H0 φ0 _ sz he (fun e => hm (l2.made e)) S hi hr1
        obtain ⟨S2, i2, f2, r2⟩ := s2 w φ H0 φ0 _ sz he hm S1 i1 (hr2.mono fun _ _ h => h.mono f1.le (HLe.refl _ _))
        exact ⟨S2, i2, f1.trans f2, .cons (r1.mono f2.le (Hn_le l2.pre)) r2⟩
end
end Go.Proofs.YtcpidokhkcmdfaaGreat.I

/-! Calls. Conditions: those of each theorem. -/
namespace Go.Proofs.YtcpidokhkcmdfaaGreat.I
open Go
set_option linter.unusedVariables false
set_option linter.unusedSimpArgs false

def hSz (h : Hint) : Nat := (h.rowArg.map (·.2)).getD 0
def hG (h : Hint) : Nat := bif h.grows then 1 else 0
/-- One object that is handed. -/
def Given (H : List (Nat × O)) (Z : List Nat) (me : Nat) (h : Hint) (made : Bool) (n : Nat) (o : O) (s : OSh) (v : Nat) : Prop :=
  (made = true ∧ n = me ∧ o = .row (hSz h) [] 0 false ∧ s = .row (hSz h) (hG h) ∧ v = 0 ∧ memb Z n = false) ∨
  (¬ (made = true ∧ n = me) ∧ ((∃ cs ls, find H n = some (.box cs) ∧ omap leafOf cs = some ls ∧ o = .box cs ∧ s = .box ls ∧ v = 0) ∨ (∃ sz xs ex, find H n = some (.row sz xs v ex) ∧ o = .row sz xs 0 false ∧ s = .row sz (hG h) ∧ memb Z n = false)))
section
variable {α : Type} {call : Oracle} {H : List (Nat × O)} {Z : List Nat} {lg : List Nat} {r : α × List Nat}
theorem objs_sound {me : Nat} {h : Hint} {made : Bool} : ∀ {ns : List Nat} {lg : List Nat} {k : List O → List OSh → List Nat → M α}, (objsM me h made ns k).val call H Z lg = some r → ∃ os oss vers lg', (k os oss vers).val call H Z lg' = some r ∧ os.length = ns.length ∧ oss.length = ns.length ∧ vers.length = ns.length ∧
    ∀ (j : Nat) n, ns[j]? = some n → ∃ o s v, os[j]? = some o ∧ oss[j]? = some s ∧ vers[j]? = some v ∧ Given H Z me h made n o s v
  | [], lg, k, hk => ⟨[], [], [], lg, hk, rfl, rfl, rfl, fun j n hj => by simp at hj⟩
  | n :: ns, lg, k, hk => by
    simp only [objsM] at hk
    rcases val_bif hk with ⟨hm, hk⟩ | ⟨hm, hk⟩
    · obtain ⟨h1, h2⟩ := and_t hm
      have h2 := beq_iff.1 h2
      subst h2
      obtain ⟨hz, hk⟩ := val_live hk
      obtain ⟨os, oss, vers, lg', k1, k2, k3, k4, k5⟩ := objs_sound hk
      refine ⟨_, _, _, lg', k1, by simp [k2], by simp [k3], by simp [k4], fun j m hj => ?_⟩
      cases j with
      | zero =>
        simp at hj; subst hj
        exact ⟨_, _, _, rfl, rfl, rfl, .inl ⟨h1, rfl, rfl, rfl, rfl, hz⟩⟩
      | succ j => simpa using k5 j m (by simpa using hj)
    · have hne : ¬ (made = true ∧ n = me) := by
        rintro ⟨rfl, rfl⟩
        simp [Nat.beq_refl] at hm
      obtain ⟨o, hf, hk⟩ := val_look hk
      split at hk
      · rename_i cs
        split at hk
        · rename_i ls hls
          obtain ⟨os, oss, vers, lg', k1, k2, k3, k4, k5⟩ := objs_sound hk
          refine ⟨_, _, _, lg', k1, by simp [k2], by simp [k3], by simp [k4], fun j m hj => ?_⟩
          cases j with
          | zero =>
            simp at hj; subst hj
            exact ⟨_, _, _, rfl, rfl, rfl, .inr ⟨hne, .inl ⟨cs, ls, hf, hls, rfl, rfl, rfl⟩⟩⟩
          | succ j => simpa using k5 j m (by simpa using hj)
        · exact (val_fail hk).elim
      · rename_i sz xs v ex
        obtain ⟨hz, hk⟩ := val_live hk
        obtain ⟨os, oss, vers, lg', k1, k2, k3, k4, k5⟩ := objs_sound hk
        refine ⟨_, _, _, lg', k1, by simp [k2], by simp [k3], by simp [k4], fun j m hj => ?_⟩
        cases j with
        | zero =>
          simp at hj; subst hj
          exact ⟨_, _, _, rfl, rfl, rfl, .inr ⟨hne, .inr ⟨sz, xs, ex, hf, rfl, rfl, hz⟩⟩⟩
        | succ j => simpa using k5 j m (by simpa using hj)
end

/-! ### The oracle is right -/
def unfC (m : Nat) : C → C
  | .fresh _ _ => .row m 0
  | c => c
def unf (m : Nat) : V → V
  | .c x => .c (unfC m x)
  | .agg cs => .agg (cs.map (unfC m))
  | v => v
def freshH (m : Nat) (v : V) : List (Nat × O) := match freshOf v with
  | some o => [(m, o)]
  | none => []
/-- The objects behind a call: those that were handed, and the row that the result made. -/
def resH (v : V) (os : List O) : List (Nat × O) := freshH os.length v ++ number 0 os
/-- A call, or a function without a text, comes to this. -/
def RunsTo (P : Program) (f : Nat) (vals : Array Value) (w : World) (R : Value → World → Prop) : Prop :=
  match (callFunc f vals).run P w with
  | .ok (.enter f' as) w' => f' = f ∧ as = vals ∧ w' = w ∧ Calls P f vals w fun e w' => ∃ v, e = .returned v ∧ R v w'
  | .ok (.value v) w' => R v w'
  | _ => False
theorem RunsTo.mono {P : Program} {f : Nat} {vals : Array Value} {w : World} {R R' : Value → World → Prop} (h : RunsTo P f vals w R) (hr : ∀ v w', R v w' → R' v w') : RunsTo P f vals w R' := by
  unfold RunsTo at h ⊢
  split
  · rename_i f' as w' he
    rw [he] at h
    obtain ⟨h1, h2, h3, h4⟩ := h
    exact ⟨h1, h2, h3, h4.mono fun e w' ⟨v, hv, hv2⟩ => ⟨v, hv, hr _ _ hv2⟩⟩
  · rename_i v w' he
    rw [he] at h
    exact hr _ _ h
  · rename_i h1 h2
    split at h
    · rename_i he; exact (h1 _ _ _ he).elim
    · rename_i he; exact (h2 _ _ he).elim
    · exact h
def CallOk (P : Program) (call : Oracle) : Prop := ∀ f h args objs v os, call f h args objs = some (v, os) → ∀ w S φ vals, Inv w S (number 0 objs) [] φ → F2 (RelV w S (number 0 objs) φ) args vals →
  RunsTo P f vals.toArray w fun r w' => ∃ S' φ', Inv w' S' (resH v os) [] φ' ∧ RelV w' S' (resH v os) φ' (unf os.length v) r ∧ HLe (number 0 objs) φ (resH v os) φ' ∧ Step (number 0 objs) φ w S (resH v os) φ' w' S'

/-! ### Plain leaves -/
def Leaf.plain : Leaf → Bool
  | .rowp _ _ => false
  | .fresh _ => false
  | _ => true
theorem plain_enc {l : Leaf} (h : l.plain = true) (x : l.T) : ∃ d, l.enc x = .d d := by
  cases l with
  | int k => exact ⟨_, rfl⟩
  | bool => exact ⟨_, rfl⟩
  | str => exact ⟨_, rfl⟩
  | list => exact ⟨_, rfl⟩
  | lit => exact ⟨_, rfl⟩
  | rowp j v => cases h
  | fresh sz => cases h
theorem leafOf_plain {c : C} {l : Leaf} (h : leafOf c = some l) : l.plain = true ∧ ∃ d, c = .d d := by
  unfold leafOf at h
  split at h <;> first | (injection h with h; subst h; exact ⟨rfl, _, rfl⟩) | cases h
theorem omap_mem {α β : Type} {f : α → Option β} : ∀ {as : List α} {bs : List β}, omap f as = some bs → ∀ b ∈ bs, ∃ a ∈ as, f a = some b
  | [], bs, h, b, hb => by simp only [omap, Option.some.injEq] at h; subst h; simp at hb
  | a :: as, bs, h, b, hb => by
    simp only [omap] at h
    cases hf : f a with
    | none => simp [hf] at h
    | some c =>
      cases hm : omap f as with
      | none => simp [hf, hm] at h
      | some cs =>
        simp [hf, hm] at h; subst h
        rcases List.mem_cons.1 hb with rfl | hb
        · exact ⟨a, by simp, hf⟩
        · obtain ⟨a', h1, h2⟩ := omap_mem hm b hb
          exact ⟨a', by simp [h1], h2⟩
theorem omap_len {α β : Type} {f : α → Option β} : ∀ {as : List α} {bs : List β}, omap f as = some bs → bs.length = as.length
  | [], bs, h => by simp only [omap, Option.some.injEq] at h; subst h; rfl
  | a :: as, bs, h => by
    simp only [omap] at h
    cases hf : f a with
    | none => simp [hf] at h
    | some c =>
      cases hm : omap f as with
      | none => simp [hf, hm] at h
      | some cs => simp [hf, hm] at h; subst h; simp [omap_len hm]
theorem plain_encs : ∀ {ls : List Leaf} (h : ∀ l ∈ ls, l.plain = true) (x : Tup ls), ∀ c ∈ encs ls x, ∃ d, c = .d d
  | [], h, x, c, hc => by simp [encs] at hc
  | l :: ls, h, x, c, hc => by
    simp only [encs, List.mem_cons] at hc
    rcases hc with rfl | hc
    · exact plain_enc (h l (by simp)) x.1
    · exact plain_encs (fun l hl => h l (by simp [hl])) x.2 c hc
theorem rel_plain {w : World} {S : Addr → Prop} {H H' : List (Nat × O)} {φ φ' : Place} {c : C} {v : Value} (h : RelC w S H φ c v) (hc : ∃ d, c = .d d) : RelC w S H' φ' c v := by
  obtain ⟨d, rfl⟩ := hc
  cases h with
  | d _ _ hd => exact .d _ _ hd
theorem decO_get : ∀ {ss : List OSh} {os : List O} {y : TupO ss}, decO ss os = some y → os.length = ss.length ∧ (encO ss y).length = ss.length ∧ ∀ (j : Nat) s o, ss[j]? = some s → os[j]? = some o → ∃ x, s.dec o = some x ∧ (encO ss y)[j]? = some (s.enc x)
  | [], [], y, h => ⟨rfl, rfl, fun j s o hs => by simp at hs⟩
  | [], o :: os, y, h => by simp [decO] at h
  | s :: ss, [], y, h => by simp [decO] at h
  | s :: ss, o :: os, y, h => by
    simp only [decO] at h
    cases hd : s.dec o with
    | none => simp [hd] at h
    | some x =>
      cases hds : decO ss os with
      | none => simp [hd, hds] at h
      | some xs =>
        simp only [hd, hds, Option.bind_some, Option.some.injEq] at h
        subst h
        obtain ⟨h1, h2, h3⟩ := decO_get hds
        refine ⟨by simp [h1], by simp [encO, h2], fun j s' o' hs ho => ?_⟩
        cases j with
        | zero =>
          simp at hs ho; subst hs ho
          exact ⟨x, hd, by simp [encO]⟩
        | succ j => simpa [encO] using h3 j s' o' (by simpa using hs) (by simpa using ho)

/-! ### What comes back, by the caller's names -/
theorem find_upds (g : Bool) (H : List (Nat × O)) : ∀ (ns vs : List Nat) (os : List O) (n : Nat), vs.length = ns.length → os.length = ns.length → (match idxOf ns n with
    | some j => ∃ v o, vs[j]? = some v ∧ os[j]? = some o ∧ find (updsOf g ns vs os ++ H) n = some (backO g v o)
    | none => find (updsOf g ns vs os ++ H) n = find H n)
  | [], [], [], n, _, _ => by simp [idxOf, updsOf]
  | m :: ns, v :: vs, o :: os, n, h1, h2 => by
    simp only [idxOf, updsOf, List.cons_append, find_cons]
    by_cases e : m = n
    · subst e
      simp
    · simp only [beq_ne e, cond_false, if_neg e]
      have ih := find_upds g H ns vs os n (by simpa using h1) (by simpa using h2)
      cases hi : idxOf ns n with
      | none => rw [hi] at ih; simpa using ih
      | some j =>
        rw [hi] at ih
        obtain ⟨v', o', k1, k2, k3⟩ := ih
        simp only [Option.bind_some]
        exact ⟨v', o', by simpa using k1, by simpa using k2, k3⟩
  | m :: ns, [], os, n, h1, _ => by simp at h1
  | m :: ns, v :: vs, [], n, _, h2 => by simp at h2
  | [], v :: vs, os, n, h1, _ => by simp at h1
  | [], [], o :: os, n, _, h2 => by simp at h2
theorem idxOf_mem : ∀ {l : List Nat} {n : Nat}, n ∈ l → ∃ j, idxOf l n = some j
  | [], n, h => by simp at h
  | m :: l, n, h => by
    simp only [idxOf]
    by_cases e : m = n
    · subst e; exact ⟨0, by simp⟩
    · simp only [beq_ne e, cond_false]
      obtain ⟨j, hj⟩ := idxOf_mem (l := l) (n := n) (by simpa [Ne.symm e] using h)
      exact ⟨j + 1, by simp [hj]⟩
theorem idxOf_get : ∀ {l : List Nat} {n j : Nat}, l.Nodup → l[j]? = some n → idxOf l n = some j
  | [], n, j, hd, h => by simp at h
  | m :: l, n, 0, hd, h => by simp at h; subst h; simp [idxOf]
  | m :: l, n, j + 1, hd, h => by
    simp only [List.getElem?_cons_succ] at h
    have hd' := List.nodup_cons.1 hd
    have e : m ≠ n := fun e => hd'.1 (by rw [e]; exact List.mem_of_getElem? h)
    simp only [idxOf, beq_ne e, cond_false, idxOf_get hd'.2 h, Option.bind_some]
theorem clash_none : ∀ {l l' : List Nat}, clash l l' = false → ∀ n ∈ l, n ∉ l'
  | [], l', h, n, hn => by simp at hn
  | m :: l, l', h, n, hn => by
    simp only [clash] at h
    cases hm : memb l' m with
    | true => simp [hm] at h
    | false =>
      simp only [hm, cond_false] at h
      rcases List.mem_cons.1 hn with rfl | hn
      · intro hc; rw [(memb_iff l' n).2 hc] at hm; cases hm
      · exact clash_none h n hn
/-- The objects that are handed lie in the callee's memory. -/
theorem Inv.handed {w : World} {S : Addr → Prop} {H : List (Nat × O)} {Z : List Nat} {φ : Place} (hi : Inv w S H Z φ) {names : List Nat} (hnd : names.Nodup)
    (hn : ∀ n ∈ names, (∃ cs, find H n = some (.box cs) ∧ ∀ c ∈ cs, ∃ d, c = .d d) ∨ (∃ sz xs v ex, find H n = some (.row sz xs v ex)) ∧ n ∉ Z) : Inv w S (Hn H names) [] (φn φ names) := by
  have get : ∀ j o, find (Hn H names) j = some o → ∃ n, names[j]? = some n ∧ o = ob H n ∧ φn φ names j = φ n := by
    intro j o hj
    rw [find_Hn] at hj
    cases h : names[j]? with
    | none => simp [h] at hj
    | some n => simp [h] at hj; exact ⟨n, rfl, hj.symm, by simp [φn, h]⟩
  have ex : ∀ n ∈ names, ∃ o, find H n = some o := fun n h => by
    rcases hn n h with ⟨cs, h1, _⟩ | ⟨⟨sz, xs, v, ex, h1⟩, _⟩
    · exact ⟨_, h1⟩
    · exact ⟨_, h1⟩
  refine ⟨fun j o hj => ?_, fun j k o1 o2 b c hj hk hne hb hc => ?_, hi.alloc, fun j o b a hj hb ha hab => ?_⟩
  · obtain ⟨n, h1, rfl, h3⟩ := get j o hj
    rcases hn n (List.mem_of_getElem? h1) with ⟨cs, h4, h5⟩ | ⟨⟨sz, xs, v, ex, h4⟩, _⟩
    · have := hi.objs n _ h4
      simp only [ob, h4]
      obtain ⟨b, vs, t, k1, k2, k3⟩ := this
      exact ⟨b, vs, t, by rw [h3]; exact k1, k2, k3.mono' fun c v hc h => rel_plain h (h5 c hc)⟩
    · have := hi.objs n _ h4
      simp only [ob, h4]
      obtain ⟨g1, g2, g3, g4⟩ := this
      exact ⟨(by intro h; cases h), by rw [h3]; exact g2, g3, by rw [h3]; exact g4⟩
  · obtain ⟨n, h1, _, h3⟩ := get j o1 hj
    obtain ⟨m, h4, _, h5⟩ := get k o2 hk
    rw [h3] at hb; rw [h5] at hc
    obtain ⟨p, hp⟩ := ex n (List.mem_of_getElem? h1)
    obtain ⟨q, hq⟩ := ex m (List.mem_of_getElem? h4)
    refine hi.inj n m p q b c hp hq (fun e => hne ?_) hb hc
    subst e
    have e1 := idxOf_get hnd h1
    have e2 := idxOf_get hnd h4
    rw [e1] at e2; injection e2
  · obtain ⟨n, h1, _, h3⟩ := get j o hj
    rw [h3] at hb
    exfalso
    rcases hn n (List.mem_of_getElem? h1) with ⟨cs, h4, _⟩ | ⟨⟨sz, xs, v, ex, h4⟩, h5⟩
    · obtain ⟨_, _, _, _, e, _⟩ := hi.sep n _ b a h4 hb ha hab
      cases e
    · obtain ⟨_, _, _, _, _, e, _⟩ := hi.sep n _ b a h4 hb ha hab
      exact h5 e
theorem own_handed {H : List (Nat × O)} {φ : Place} {names : List Nat} (hn : ∀ n ∈ names, ∃ o, find H n = some o) {k : Nat} (h : Own (Hn H names) (φn φ names) k) : ∃ n o b, n ∈ names ∧ find H n = some o ∧ (φ n).1 = some b ∧ b.block = k := by
  obtain ⟨j, o, b, h1, h2, h3⟩ := h
  rw [find_Hn] at h1
  cases hj : names[j]? with
  | none => simp [hj] at h1
  | some n =>
    obtain ⟨o', ho'⟩ := hn n (List.mem_of_getElem? hj)
    simp [φn, hj] at h2
    exact ⟨n, o', b, List.mem_of_getElem? hj, ho', h2, h3⟩
end Go.Proofs.YtcpidokhkcmdfaaGreat.I

/-! Calls: an operation that calls goes as the callee does. Conditions: those of each theorem. -/
namespace Go.Proofs.YtcpidokhkcmdfaaGreat.I
open Go
set_option linter.unusedVariables false
set_option linter.unusedSimpArgs false

/-- The heap with the empty row in it, if one was made. -/
theorem with_made {w : World} {S : Addr → Prop} {H : List (Nat × O)} {Z : List Nat} {φ : Place} (hi : Inv w S H Z φ) (ac : Acc) (me sz : Nat) (hm : ac.made = true → find H me = none) :
    ∃ H0 φ0, Ext H φ H0 φ0 ∧ MadeOk me sz ac H0 φ0 ∧ Inv w S H0 Z φ0 ∧ (∀ n, (¬ (ac.made = true ∧ n = me)) → find H0 n = find H n ∧ φ0 n = φ n) ∧ (∀ k, Own H0 φ0 k → Own H φ k) := by
  cases hmade : ac.made with
  | false =>
    exact ⟨H, φ, fun n o h => ⟨h, rfl⟩, (fun h => by rw [hmade] at h; cases h), hi, fun n _ => ⟨rfl, rfl⟩, fun k h => h⟩
  | true =>
    have hf := hm hmade
    have hh := HLe.new (φ := φ) hf (.row sz [] 0 false) (none, 0)
    obtain ⟨i1, i2⟩ := hi.change (n := me) (o' := .row sz [] 0 false) (p := (none, 0)) rfl rfl rfl (Nat.le_refl _) (fun _ _ _ => rfl) (Le.refl _ _) hh
      ⟨(by intro h; cases h), by simp, by simp, .inl ⟨by rw [φset_same], by rw [φset_same]⟩⟩ (fun b hb => by cases hb) (fun b c hb => by cases hb)
    refine ⟨_, _, fun n o h => ?_, fun _ => ⟨find_same _ _ _, φset_same _ _ _⟩, i1, fun n hn => ?_, fun k hk => ?_⟩
    · have : n ≠ me := fun e => by subst e; rw [hf] at h; cases h
      exact ⟨by rw [find_other _ _ (Ne.symm this)]; exact h, φset_other _ _ this⟩
    · have : n ≠ me := fun e => hn ⟨rfl, e⟩
      exact ⟨find_other _ _ (Ne.symm this), φset_other _ _ this⟩
    · obtain ⟨n, o, b, h1, h2, h3⟩ := hk
      by_cases e : n = me
      · subst e; rw [φset_same] at h2; cases h2
      · rw [find_other _ _ (Ne.symm e)] at h1
        rw [φset_other _ _ e] at h2
        exact ⟨n, o, b, h1, h2, h3⟩
theorem ObjOk.row_out {w : World} {S : Addr → Prop} {H H' : List (Nat × O)} {φ φ' : Place} {n m sz : Nat} {xs : List (List D)} {v v' : Nat} {ex : Bool} (h : ObjOk w S H φ n (.row sz xs v ex)) (hp : φ' m = φ n) : ObjOk w S H' φ' m (.row sz xs v' false) := by
  obtain ⟨g1, g2, g3, g4⟩ := h
  exact ⟨(by intro h; cases h), by rw [hp]; exact g2, g3, by rw [hp]; exact g4⟩
theorem F2.plain {w : World} {S : Addr → Prop} {H H' : List (Nat × O)} {φ φ' : Place} {cs : List C} {vs : List Value} (h : F2 (RelC w S H φ) cs vs) (hc : ∀ c ∈ cs, ∃ d, c = .d d) : F2 (RelC w S H' φ') cs vs := h.mono' fun c v hm hr => rel_plain hr (hc c hm)
theorem freshIn_some {cs : List C} {o : O} (h : freshIn cs = some o) : ∃ sz xs, o = .row sz xs 0 false := by
  induction cs with
  | nil => simp [freshIn] at h
  | cons c cs ih =>
    cases c <;> simp only [freshIn] at h <;> first | exact ih h | (injection h with h; exact ⟨_, _, h.symm⟩)
theorem freshOf_some {v : V} {o : O} (h : freshOf v = some o) : ∃ sz xs, o = .row sz xs 0 false := by
  unfold freshOf at h
  split at h
  · injection h with h; exact ⟨_, _, h.symm⟩
  · exact freshIn_some h
  · cases h

/-- What is known of the names behind a call. -/
structure Back (names vers : List Nat) (g : Bool) (me m : Nat) (fr : Option O) (HR : List (Nat × O)) (φR : Place) (Hf : List (Nat × O)) (φf : Place) : Prop where
  row : ∀ j a len cap w S, RelC w S HR φR (.row j (bif g then 1 else 0)) (.slice a len cap) → ∀ n v, names[j]? = some n → vers[j]? = some v → RelC w S Hf φf (.row n (bif g then v + 1 else v)) (.slice a len cap)
  fresh : ∀ a len cap w S, fr.isSome = true → RelC w S HR φR (.row m 0) (.slice a len cap) → RelC w S Hf φf (.row me 0) (.slice a len cap)
theorem back_rel {names vers : List Nat} {g : Bool} {me m : Nat} {fr : Option O} {HR : List (Nat × O)} {φR : Place} {Hf : List (Nat × O)} {φf : Place} (hb : Back names vers g me m fr HR φR Hf φf) {w : World} {S : Addr → Prop} {c c' : C} {v : Value}
    (h : backC me names vers g c = some c') (hfr : (∃ sz xs, c = .fresh sz xs) → fr.isSome = true) (hr : RelC w S HR φR (unfC m c) v) : RelC w S Hf φf c' v := by
  unfold backC at h
  split at h
  · rename_i j ver
    cases hve : Nat.beq ver (bif g then 1 else 0) with
    | false => rw [hve] at h; cases h
    | true =>
    rw [hve] at h
    have hve := beq_iff.1 hve
    subst hve
    simp only [cond_true] at h
    split at h
    · rename_i n v' hn hv
      rw [nth_get] at hn hv
      injection h with h
      subst h
      have hr' : RelC w S HR φR (.row j (bif g then 1 else 0)) v := hr
      cases v with
      | slice a len cap => exact hb.row j a len cap w S hr' n v' hn hv
      | _ => cases hr'
    · cases h
  · injection h with h
    subst h
    have hr' : RelC w S HR φR (.row m 0) v := hr
    cases v with
    | slice a len cap => exact hb.fresh a len cap w S (hfr ⟨_, _, rfl⟩) hr'
    | _ => cases hr'
  · injection h with h; subst h; exact rel_plain hr ⟨_, rfl⟩
  · injection h with h; subst h
    have hr' : RelC w S HR φR .nilp v := hr
    cases hr'; exact .nilp
  · injection h with h; subst h
    have hr' : RelC w S HR φR .nilf v := hr
    cases hr'; exact .nilf
  · cases h
theorem freshIn_mem {cs : List C} (h : ∃ c ∈ cs, ∃ sz xs, c = C.fresh sz xs) : (freshIn cs).isSome = true := by
  induction cs with
  | nil => obtain ⟨c, hc, _⟩ := h; simp at hc
  | cons c cs ih =>
    obtain ⟨c', hc, sz, xs, rfl⟩ := h
    rcases List.mem_cons.1 hc with e | hc2
    · subst e; simp [freshIn]
    · have ih' := ih ⟨_, hc2, sz, xs, rfl⟩
      cases c <;> simp only [freshIn] <;> first | exact ih' | rfl
theorem omap_F2' {α β γ : Type} {f : α → Option β} {R : α → γ → Prop} {R' : β → γ → Prop} : ∀ {as : List α} {bs : List β} {cs : List γ}, omap f as = some bs → F2 R as cs → (∀ a b c, a ∈ as → f a = some b → R a c → R' b c) → F2 R' bs cs
  | [], bs, cs, h, hf, hr => by simp only [omap, Option.some.injEq] at h; subst h; cases hf; exact .nil
  | a :: as, bs, cs, h, hf, hr => by
    simp only [omap] at h
    cases ha : f a with
    | none => simp [ha] at h
    | some b =>
      cases hm : omap f as with
      | none => simp [ha, hm] at h
      | some bs' =>
        simp [ha, hm] at h; subst h
        cases hf with
        | cons h1 h2 => exact .cons (hr _ _ _ (by simp) ha h1) (omap_F2' hm h2 fun a b c hm => hr a b c (by simp [hm]))
theorem F2.unmap {α β γ : Type} {R : β → γ → Prop} {f : α → β} : ∀ {as : List α} {cs : List γ}, F2 R (as.map f) cs → F2 (fun a c => R (f a) c) as cs
  | [], cs, h => by cases h; exact .nil
  | a :: as, cs, h => by cases h with
    | cons h1 h2 => exact .cons h1 (F2.unmap h2)
theorem backV_rel {names vers : List Nat} {g : Bool} {me m : Nat} {HR : List (Nat × O)} {φR : Place} {Hf : List (Nat × O)} {φf : Place} {x x' : V} (hb : Back names vers g me m (freshOf x) HR φR Hf φf) {w : World} {S : Addr → Prop} {v : Value}
    (h : backV me names vers g x = some x') (hr : RelV w S HR φR (unf m x) v) : RelV w S Hf φf x' v := by
  unfold backV at h
  split at h
  · rename_i c
    cases hc : backC me names vers g c with
    | none => simp [hc] at h
    | some c' =>
      simp [hc] at h; subst h
      have hr' : RelV w S HR φR (.c (unfC m c)) v := hr
      exact .c _ _ (back_rel hb hc (by rintro ⟨sz, xs, rfl⟩; rfl) hr'.inv_c)
  · rename_i cs
    cases hc : omap (backC me names vers g) cs with
    | none => simp [hc] at h
    | some cs' =>
      simp [hc] at h; subst h
      have hr' : RelV w S HR φR (.agg (cs.map (unfC m))) v := hr
      cases hr' with
      | agg _ vs hvs =>
        refine .agg _ _ (omap_F2' hc hvs.unmap fun c c' v hcm hcc hrc => back_rel hb hcc ?_ hrc)
        rintro ⟨sz, xs, rfl⟩
        exact freshIn_mem ⟨_, hcm, sz, xs, rfl⟩
  · cases h
theorem backVs_rel {names vers : List Nat} {g : Bool} {me m : Nat} {HR : List (Nat × O)} {φR : Place} {Hf : List (Nat × O)} {φf : Place} {x x' : V} (hb : Back names vers g me m (freshOf x) HR φR Hf φf) {w : World} {S : Addr → Prop} {v : Value}
    (h : backVs me names vers g x = some x') (hnf : ∀ vs, x = .tup vs → ∀ y ∈ vs, freshOf y = none ∧ unf m y = y) (hr : RelV w S HR φR (unf m x) v) : RelV w S Hf φf x' v := by
  unfold backVs at h
  split at h
  · rename_i vs
    cases hc : omap (backV me names vers g) vs with
    | none => simp [hc] at h
    | some ws =>
      simp [hc] at h; subst h
      have hr' : RelV w S HR φR (.tup vs) v := hr
      cases hr' with
      | tup _ us hl hh =>
        have hF : F2 (RelV w S HR φR) vs us := F2.of hl hh
        have h2 := omap_F2' (R' := RelV w S Hf φf) hc hF fun y y' u hy hyy hry => by
          obtain ⟨e1, e2⟩ := hnf vs rfl y hy
          refine backV_rel (m := m) (HR := HR) (φR := φR) ⟨hb.row, fun a len cap w S h => ?_⟩ hyy (by rw [e2]; exact hry)
          rw [e1] at h; cases h
        refine .tup _ _ h2.length fun i x v hx hv => ?_
        obtain ⟨v', hv', hrv⟩ := h2.get hx
        rw [hv] at hv'; injection hv' with hv'; subst hv'
        exact hrv
  · exact backV_rel hb h hr
end Go.Proofs.YtcpidokhkcmdfaaGreat.I

