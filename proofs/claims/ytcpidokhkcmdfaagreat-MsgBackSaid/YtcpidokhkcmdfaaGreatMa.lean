/- What comes to something, and of what it is; numbers in tens; filters by numbers. Conditions: those of each theorem. -/
import Derived.Test.YtcpidokhkcmdfaaGreatTu
namespace Go.Proofs.YtcpidokhkcmdfaaGreat.B
open Go Go.Proofs Go.Proofs.YtcpidokhkcmdfaaGreat.I
set_option linter.unusedVariables false
set_option linter.unusedSimpArgs false
set_option maxRecDepth 100000
/-- It comes to something of which Q holds. -/
def Yes {α : Type} (o : Option α) (Q : α → Prop) : Prop := ∃ r, o = some r ∧ Q r
theorem Yes.bind {α β : Type} {o : Option α} {F : α → Option β} {P : α → Prop} {Q : β → Prop} (h : Yes o P) (k : ∀ r, P r → Yes (F r) Q) : Yes (o.bind F) Q := by
  obtain ⟨r, rfl, hr⟩ := h
  exact k r hr
theorem Yes.some {α : Type} {Q : α → Prop} {r : α} (h : Q r) : Yes (Option.some r) Q := ⟨r, rfl, h⟩
theorem Yes.cond {α : Type} {Q : α → Prop} {b : Bool} {x y : Option α} (hx : b = true → Yes x Q) (hy : b = false → Yes y Q) : Yes (bif b then x else y) Q := by
  cases b
  · exact hy rfl
  · exact hx rfl
theorem Yes.mono {α : Type} {o : Option α} {P Q : α → Prop} (h : Yes o P) (k : ∀ r, P r → Q r) : Yes o Q := by
  obtain ⟨r, e, hr⟩ := h
  exact ⟨r, e, k r hr⟩
theorem wu64 (n : Int) : IntKind.wrap .u64 n = n % 18446744073709551616 := by simp [IntKind.wrap, IntKind.bits, IntKind.signed]
/-- A byte. -/
def By (x : Int) : Prop := 0 ≤ x ∧ x < 256
theorem w64r {x : Int} (h : By x) : By (IntKind.wrap .i64 x) := by
  obtain ⟨h0, h1⟩ := h
  rw [w64 (by omega) (by omega)]; exact ⟨h0, h1⟩
theorem tdr {x c : Int} (h : By x) (hc : 0 < c) : By (Int.tdiv x c) := by
  obtain ⟨h0, h1⟩ := h
  rw [Int.tdiv_eq_ediv_of_nonneg h0]
  refine ⟨Int.ediv_nonneg h0 (by omega), ?_⟩
  have := Int.ediv_le_self c h0
  omega
theorem tmr {x c : Int} (h : 0 ≤ x) (hc : 0 < c) : 0 ≤ Int.tmod x c ∧ Int.tmod x c < c := by
  rw [Int.tmod_eq_emod_of_nonneg h]
  exact ⟨Int.emod_nonneg _ (by omega), Int.emod_lt_of_pos _ hc⟩
theorem yes_cat {s t : List UInt8} (hs : s.length ≤ 1073741824) (ht : t.length ≤ 1073741824) : Yes (cat s t) fun r => r.length = s.length + t.length := by
  rw [cat_eq (by omega)]
  exact .some List.length_append
/-! tables -/
def Tab (p : List D → Prop) (L : List (List D)) : Prop := ∀ e ∈ L, p e
theorem Tab.nil {p : List D → Prop} : Tab p [] := by intro e h; cases h
theorem Tab.cons {p : List D → Prop} {e : List D} {L : List (List D)} (h : p e) (t : Tab p L) : Tab p (e :: L) := by
  intro x hx
  rcases List.mem_cons.1 hx with rfl | hx
  · exact h
  · exact t x hx
def pS (b : Nat) (e : List D) : Prop := ∃ s, e = [D.str s] ∧ s.length ≤ b
def pI (e : List D) : Prop := ∃ n, e = [D.int .i64 n] ∧ By n
def pL (b : Nat) (e : List D) : Prop := ∃ l, e = [D.list (dSs l)] ∧ sS l ≤ b
theorem pS.mk {b : Nat} {s : List UInt8} (h : s.length ≤ b) : pS b [D.str s] := ⟨s, rfl, h⟩
theorem pI.mk {n : Int} (h : By n) : pI [D.int .i64 n] := ⟨n, rfl, h⟩
theorem pL.mk {b : Nat} (l : List (List UInt8)) (h : sS l ≤ b) : pL b [D.list (dSs l)] := ⟨l, rfl, h⟩
theorem yes_row {β : Type} {L : List (List D)} {i : Int} {p : List D → Prop} (ht : Tab p L) (hi : 0 ≤ i ∧ i < L.length) {F : List D → Option β} {Q : β → Prop} (k : ∀ e, p e → Yes (F e) Q) : Yes ((at_ L i).bind fun j => (L[j]?).bind F) Q := by
  have hlt : i.toNat < L.length := by omega
  refine Yes.bind (P := fun j => j = i.toNat) ⟨i.toNat, by unfold at_; rw [if_pos hi], rfl⟩ fun j hj => ?_
  subst hj
  rw [List.getElem?_eq_getElem hlt]
  exact k _ (ht _ (List.getElem_mem hlt))
theorem yes_ix {β : Type} {sz : Nat} {L : List (List D)} {i : Int} {p : List D → Prop} (ht : Tab p L) (hz : ∀ e, p e → e.length = sz) (hi : 0 ≤ i ∧ i < L.length) {F : List D → Option β} {Q : β → Prop} (k : ∀ e, p e → Yes (F e) Q) : Yes ((ix sz L i).bind F) Q := by
  rw [ix_eq hi.1 hi.2 (fun e he => hz e (ht e he))]
  exact k _ (ht _ (List.getElem_mem _))
theorem yes_str {β : Type} {b : Nat} {e : List D} (h : pS b e) {F : List UInt8 × Unit → Option β} {Q : β → Prop} (k : ∀ s : List UInt8, s.length ≤ b → Yes (F (s, ())) Q) : Yes ((decs [.str] (sub e 0 1)).bind F) Q := by
  obtain ⟨s, rfl, hs⟩ := h
  exact k s hs
theorem yes_int {β : Type} {e : List D} (h : pI e) {F : Int × Unit → Option β} {Q : β → Prop} (k : ∀ n : Int, By n → Yes (F (n, ())) Q) : Yes ((decs [.int .i64] (sub e 0 1)).bind F) Q := by
  obtain ⟨s, rfl, hs⟩ := h
  exact k s hs
theorem yes_list {β : Type} {b : Nat} {e : List D} (h : pL b e) {F : List (List D) × Unit → Option β} {Q : β → Prop} (k : ∀ l : List (List UInt8), sS l ≤ b → Yes (F (dSs l, ())) Q) : Yes ((decs [.list] (sub e 0 1)).bind F) Q := by
  obtain ⟨s, rfl, hs⟩ := h
  exact k s hs
theorem pS.sz {b : Nat} : ∀ e, pS b e → e.length = 1 := by rintro _ ⟨s, rfl, _⟩; rfl
theorem pI.sz : ∀ e, pI e → e.length = 1 := by rintro _ ⟨s, rfl, _⟩; rfl
def bytesI (l : List Int) : Prop := ∀ x ∈ l, 0 ≤ x ∧ x < 256
theorem yes_byte {β : Type} {l : List Int} (hl : bytesI l) {i : Int} (hi : 0 ≤ i ∧ i < l.length) {F : Int × Unit → Option β} {Q : β → Prop} (k : ∀ n : Int, By n → Yes (F (n, ())) Q) : Yes ((ix 1 (rowI l) i).bind fun e => (decs [.int .u8] (sub e 0 1)).bind F) Q := by
  have hlt : i.toNat < l.length := by omega
  rw [ix_eq hi.1 (by rw [rowI_len]; exact hi.2) (rowI_sz l)]
  have : (rowI l)[i.toNat]'(by rw [rowI_len]; exact hlt) = [D.int .u8 l[i.toNat]] := by simp [rowI]
  simp only [Option.bind_some, this]
  exact k _ (hl _ (List.getElem_mem hlt))
theorem yes_subz {l : List Int} (hl : bytesI l) {a b : Int} (h0 : 0 ≤ a) (h1 : a ≤ b) (h2 : b ≤ l.length) : Yes (subz 1 (rowI l) a b) fun r => ∃ l', r = rowI l' ∧ bytesI l' ∧ (l'.length : Int) = b - a := by
  unfold subz
  rw [if_pos (rowI_sz l), subs_eq _ h0 h1 (by rw [rowI_len]; exact h2)]
  refine .some ⟨(l.drop a.toNat).take (b - a).toNat, by simp [rowI, List.map_take, List.map_drop], fun x hx => hl x (List.mem_of_mem_drop (List.mem_of_mem_take hx)), ?_⟩
  rw [List.length_take, List.length_drop]
  omega
/-! numbers kept -/
def kI (l : List Int) : List (List D) := l.map fun n => [D.int .i64 n]
def KOk (n : Nat) (y : List (List D)) : Prop := Tab pI y ∧ y.length = n
theorem KOk.zero (n : Nat) : KOk n (List.replicate n [D.int .i64 0]) := ⟨fun e he => by rw [List.eq_of_mem_replicate he]; exact .mk ⟨by omega, by omega⟩, List.length_replicate⟩
theorem yes_read {β : Type} {n : Nat} {y : List (List D)} {i : Int} (h : KOk n y) (hi : 0 ≤ i ∧ i < (n : Int)) {F : Int × Unit → Option β} {Q : β → Prop} (k : ∀ v : Int, By v → Yes (F (v, ())) Q) : Yes ((at_ y i).bind fun j => (y[j]?).bind fun e => (decs [.int .i64] (sub e 0 1)).bind F) Q :=
  yes_row h.1 (by rw [h.2]; exact hi) fun e he => yes_int he k
theorem yes_keep {β : Type} {n : Nat} {y : List (List D)} {i v : Int} (h : KOk n y) (hi : 0 ≤ i ∧ i < (n : Int)) (hv : By v) {F : List (List D) → Option β} {Q : β → Prop} (k : ∀ y', KOk n y' → Yes (F y') Q) : Yes ((at_ y i).bind fun j => (y[j]?).bind fun e => F (List.set y j (splice e 0 [D.int .i64 v]))) Q := by
  have hlt : i.toNat < y.length := by have := h.2; omega
  refine Yes.bind (P := fun j => j = i.toNat) ⟨i.toNat, by unfold at_; rw [if_pos (by rw [h.2]; exact hi)], rfl⟩ fun j hj => ?_
  subst hj
  rw [List.getElem?_eq_getElem hlt]
  obtain ⟨n0, e, hn⟩ := h.1 _ (List.getElem_mem hlt)
  simp only [Option.bind_some, e]
  refine k _ ⟨?_, by rw [List.length_set]; exact h.2⟩
  intro x hx
  rcases List.mem_or_eq_of_mem_set hx with hx | rfl
  · exact h.1 x hx
  · exact .mk hv
section
variable {call : Oracle} {lp : Loops} (hW : Fix Tryz.prog hs call lp)
include hW
theorem dig_loop : ∀ (k : Nat) (x0 x3 : Int) (x4 : List UInt8), 0 ≤ x3 → x3 < 10 ^ (k + 1) → x3 ≤ 100000 → x4.length + k ≤ 1000 → Yes (brookref1_Digits.l4 call lp x0 x3 x4) fun r => r.1.length ≤ x4.length + k + 2 := by
  intro k
  induction k with
  | zero =>
    intro x0 x3 x4 h0 h1 hk h2
    rw [brookref1_Digits.l4.eq hW, decide_eq_false (by omega), cond_false, str_one]
    simp only [Option.bind_some]
    refine Yes.bind (yes_cat (s := strOfNums [_]) (t := x4) (by simp [strOfNums]) (by omega)) fun t ht => ?_
    simp [strOfNums] at ht
    refine .cond (fun _ => Yes.bind (yes_cat (by simp) (by omega)) fun t' ht' => .some ?_) fun _ => .some ?_
    · simp at ht' ⊢; omega
    · simp; omega
  | succ k ih =>
    intro x0 x3 x4 h0 h1 hk h2
    rw [brookref1_Digits.l4.eq hW]
    refine .cond (fun hc => ?_) fun _ => ?_
    · rw [str_one]
      simp only [Option.bind_some]
      refine Yes.bind (yes_cat (s := strOfNums [_]) (t := x4) (by simp [strOfNums]) (by omega)) fun t ht => ?_
      simp [strOfNums] at ht
      have hd : Int.tdiv x3 10 = x3 / 10 := Int.tdiv_eq_ediv_of_nonneg h0
      have hp : (10 : Int) ^ (k + 1 + 1) = 10 * 10 ^ (k + 1) := by rw [Int.pow_succ]; omega
      have h3 : x3 / 10 < 10 ^ (k + 1) := by omega
      have hw : IntKind.wrap .u64 (Int.tdiv x3 10) = x3 / 10 := by rw [hd, wu64]; omega
      rw [hw]
      exact (ih x0 (x3 / 10) t (by omega) h3 (by omega) (by omega)).mono fun r hr => by omega
    · rw [str_one]
      simp only [Option.bind_some]
      refine Yes.bind (yes_cat (s := strOfNums [_]) (t := x4) (by simp [strOfNums]) (by omega)) fun t ht => ?_
      simp [strOfNums] at ht
      refine .cond (fun _ => Yes.bind (yes_cat (by simp) (by omega)) fun t' ht' => .some ?_) fun _ => .some ?_
      · simp at ht' ⊢; omega
      · simp; omega
theorem Digits_yes (n : Int) (h0 : -1000 ≤ n) (h1 : n < 1000) : Yes (brookref1_Digits.f call n) fun r => r.1.length ≤ 10 := by
  rw [brookref1_Digits.eq hW]
  refine .cond (fun hc => ?_) fun hc => ?_
  · have hc := of_decide_eq_true hc
    have : IntKind.wrap .u64 (0 - IntKind.wrap .u64 n) = -n := by rw [wu64, wu64]; omega
    rw [this]
    exact (dig_loop hW 3 n (-n) [] (by omega) (by omega) (by omega) (by simp)).mono fun r hr => by simp at hr; omega
  · have hc := of_decide_eq_false hc
    have : IntKind.wrap .u64 n = n := by rw [wu64]; omega
    rw [this]
    exact (dig_loop hW 3 n n [] (by omega) (by omega) (by omega) (by simp)).mono fun r hr => by simp at hr; omega
/-- A letter or two ahead of a number. -/
theorem pre_yes {p : List UInt8} (hp : p.length ≤ 20) (n : Int) (h0 : -1000 ≤ n) (h1 : n < 1000) {β : Type} {F : List UInt8 → Option β} {Q : β → Prop} (k : ∀ s : List UInt8, s.length ≤ 30 → Yes (F s) Q) : Yes ((brookref1_Digits.f call n).bind fun t => (cat p t.1).bind F) Q :=
  (Digits_yes hW n h0 h1).bind fun t ht => (yes_cat (by omega) (by omega)).bind fun s hs => k s (by omega)
end
end Go.Proofs.YtcpidokhkcmdfaaGreat.B
