/- Plain lemmas on numbers and bytes, for the laws of this seat. Conditions: those of each theorem. -/
import Derived.Test.YtjlcmahknldjpaaVWords
import Derived.Laws.BitsAllLaws
import Derived.Laws.Strings
namespace Go.Proofs.Ytjlcmahknldjpaa.Pure
open Go.RowKit Go.Proofs.YtjlcmahknldjpaaV.PrintWords
set_option linter.unusedVariables false
set_option linter.unusedSimpArgs false

theorem w64 {x : Int} (h0 : -9223372036854775808 ≤ x) (h1 : x ≤ 9223372036854775807) : wrap64 x = x := by unfold wrap64; omega

/-! bytes as a list of numbers -/
theorem by_len (s : ByteArray) : (bytesOf s).length = s.size := bytesOf_length s
theorem by_bt (s : ByteArray) (i : Int) : bt s i = (bytesOf s).getD i.toNat 0 := (rd_bytesOf s i).symm
theorem by_bd (s : ByteArray) : ∀ x ∈ bytesOf s, 0 ≤ x ∧ x < 256 := by
  intro x hx
  unfold bytesOf at hx
  obtain ⟨b, _, rfl⟩ := List.mem_map.1 hx
  have := b.toNat_lt
  omega
theorem by_extract (s : ByteArray) (a b : Nat) : bytesOf (s.extract a b) = ((bytesOf s).take b).drop a := by
  unfold bytesOf
  rw [ByteArray.data_extract, Array.toList_extract, List.extract_eq_take_drop, List.map_take, List.map_drop, List.drop_take]
theorem by_append (s t : ByteArray) : bytesOf (s ++ t) = bytesOf s ++ bytesOf t := by
  unfold bytesOf
  rw [ByteArray.data_append, Array.toList_append, List.map_append]
theorem by_inj {s t : ByteArray} (h : bytesOf s = bytesOf t) : s = t := by
  unfold bytesOf at h
  have h2 : s.data.toList = t.data.toList := by
    refine List.map_inj_right (f := fun b : UInt8 => (b.toNat : Int)) ?_ |>.1 h
    intro x y hxy
    have : x.toNat = y.toNat := by omega
    exact UInt8.toNat_inj.1 this
  cases s with
  | mk ds => cases t with
    | mk dt => congr 1; exact Array.toList_inj.1 h2
theorem by_strOf {l : List Int} (h : ∀ x ∈ l, 0 ≤ x ∧ x < 256) : bytesOf (strOfNums l) = l := by
  unfold bytesOf strOfNums
  simp only [List.map_map]
  have : ∀ x ∈ l, ((fun b : UInt8 => (b.toNat : Int)) ∘ fun n : Int => UInt8.ofNat n.toNat) x = x := by
    intro x hx
    have := h x hx
    simp only [Function.comp, UInt8.toNat_ofNat']
    omega
  rw [List.map_congr_left this]
  simp
theorem strOf_by (s : ByteArray) : strOfNums (bytesOf s) = s := by_inj (by_strOf (by_bd s))
theorem by_mk (l : List UInt8) : bytesOf (⟨l.toArray⟩ : ByteArray) = l.map fun b => (b.toNat : Int) := by simp [bytesOf]
theorem toList_data (s : ByteArray) : s.toList = s.data.toList := ByteArray.toList_eq s
theorem toList_eq {s t : ByteArray} : s.toList = t.toList ↔ s = t := by
  constructor
  · intro h
    rw [toList_data, toList_data] at h
    cases s with
    | mk ds => cases t with
      | mk dt => congr 1; exact Array.toList_inj.1 h
  · intro h; rw [h]
theorem toList_nil {s : ByteArray} : s.toList = ([] : List UInt8) ↔ bytesOf s = [] := by
  rw [toList_data]
  unfold bytesOf
  simp
theorem toList_lit {s : ByteArray} {l : List UInt8} : s.toList = l ↔ bytesOf s = l.map fun b => (b.toNat : Int) := by
  constructor
  · intro h
    rw [toList_data] at h
    unfold bytesOf
    rw [h]
  · intro h
    have : s = ⟨l.toArray⟩ := by_inj (by rw [h, by_mk])
    rw [this, toList_data]
theorem getD_bd {l : List Int} (h : ∀ x ∈ l, 0 ≤ x ∧ x < 256) (i : Nat) : 0 ≤ l.getD i 0 ∧ l.getD i 0 < 256 := by
  rw [List.getD_eq_getElem?_getD]
  cases hi : l[i]? with
  | none => simp
  | some x =>
    have := h x (List.mem_of_getElem? hi)
    simpa using this

/-! bits of small numbers -/
theorem wraps_i64 (n : Int) (h0 : 0 ≤ n) (h1 : n < 2 ^ 31) : IntKind.i64.wrap n = n := by rw [IntKind.wrap_i64]; omega
theorem and31 {x : Int} (h0 : 0 ≤ x) (h1 : x < 256) : Go.bits .and .i64 x 31 = x % 32 :=
  bits_mask .i64 31 (by decide) wraps_i64 5 (by decide) x h0 (by omega)
theorem and31u {x : Int} (h0 : 0 ≤ x) (h1 : x < 256) : Go.bits .and .u8 x 31 = x % 32 := u8_and31 x h0 h1
theorem and32 {x : Int} (h0 : 0 ≤ x) (h1 : x < 256) : Go.bits .and .i64 x 32 = x / 32 % 2 * 32 := by
  have h : ∀ n : Fin 256, Go.bits .and .i64 (n.val : Int) 32 = (n.val : Int) / 32 % 2 * 32 := by decide +kernel
  have := h ⟨x.toNat, by omega⟩
  simp only [Int.toNat_of_nonneg h0] at this
  exact this
theorem or8 {x y : Int} (h0 : 0 ≤ x) (h1 : x < 8388608) (h2 : 0 ≤ y) (h3 : y < 256) : Go.bits .or .i64 (x * 256) y = x * 256 + y :=
  bits_join .i64 31 (by decide) wraps_i64 8 (x * 256) y (by omega) (by omega) (by omega) h2 (by omega) (by omega)

/-! rounds -/
theorem ev_ite {α : Type} {p : Prop} [Decidable p] {g f : Nat → Option α} {r : α} (h1 : p → Ev g r) (h2 : ¬ p → Ev f r) : Ev (fun k => if p then g k else f k) r := by
  by_cases h : p
  · obtain ⟨K, hK⟩ := h1 h
    exact ⟨K, fun k hk => (if_pos h).trans (hK k hk)⟩
  · obtain ⟨K, hK⟩ := h2 h
    exact ⟨K, fun k hk => (if_neg h).trans (hK k hk)⟩
theorem ev_some {α : Type} {a r : α} (h : a = r) : Ev (fun _ => some a) r := by subst h; exact Ev.now _
theorem ev_at {α : Type} {g : Nat → Option α} {r : α} (K : Nat) (h : ∀ k, K ≤ k → g k = some r) : Ev g r := ⟨K, h⟩
theorem ev_succ {α : Type} {g : Nat → Option α} {r : α} (h : Ev (fun k => g (k + 1)) r) : Ev g r := Ev.step (fun _ => rfl) h
theorem ev_congr {α : Type} {g f : Nat → Option α} {r : α} (h : ∀ k, g k = f k) (hf : Ev f r) : Ev g r := by
  obtain ⟨K, hK⟩ := hf
  exact ⟨K, fun k hk => by rw [h]; exact hK k hk⟩
theorem ev_ex {α : Type} {g : Nat → Option α} {r : α} (h : Ev g r) : ∃ k, g k = some r := h.rounds

end Go.Proofs.Ytjlcmahknldjpaa.Pure
