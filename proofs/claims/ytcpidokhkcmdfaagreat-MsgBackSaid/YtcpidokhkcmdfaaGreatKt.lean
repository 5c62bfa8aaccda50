/- Plain lemmas on what the equations are made of: numbers, bytes, slices. Conditions: those of each theorem. -/
import Derived.Test.YtcpidokhkcmdfaaGreatSb
import Derived.Laws.BitsLemmas
namespace Go.Proofs.YtcpidokhkcmdfaaGreat.B
open Go Go.Proofs.YtcpidokhkcmdfaaGreat.I
set_option linter.unusedVariables false
set_option linter.unusedSimpArgs false
theorem w64 {x : Int} (h0 : -9223372036854775808 ≤ x) (h1 : x ≤ 9223372036854775807) : IntKind.wrap .i64 x = x := by rw [IntKind.wrap_i64]; omega
theorem wu8 (x : Int) : IntKind.wrap .u8 x = x % 256 := by rw [IntKind.wrap_u8]
theorem bt_by (s : List UInt8) {i : Int} (h0 : 0 ≤ i) (h1 : i < s.length) : bt s i = some ((bytesOf s).getD i.toNat 0) := by
  unfold bt
  rw [if_pos h0]
  have hl : i.toNat < s.length := by omega
  rw [List.getElem?_eq_getElem hl, List.getD_eq_getElem?_getD]
  unfold bytesOf
  rw [List.getElem?_map, List.getElem?_eq_getElem hl]
  rfl
theorem subs_eq {α : Type} (s : List α) {l h : Int} (h0 : 0 ≤ l) (h1 : l ≤ h) (h2 : h ≤ s.length) : subs s l h = some ((s.drop l.toNat).take (h - l).toNat) := by
  unfold subs; rw [if_pos ⟨h0, h1, h2⟩]
theorem subs_all {α : Type} (s : List α) {l : Int} (h0 : 0 ≤ l) (h2 : l ≤ s.length) : subs s l s.length = some (s.drop l.toNat) := by
  rw [subs_eq s h0 h2 (by omega), List.take_of_length_le (by rw [List.length_drop]; omega)]
theorem ix_eq {sz : Nat} {xs : List (List D)} {i : Int} (h0 : 0 ≤ i) (h1 : i < xs.length) (hs : ∀ e ∈ xs, e.length = sz) : ix sz xs i = some (xs[i.toNat]'(by omega)) := by
  unfold ix
  have hl : i.toNat < xs.length := by omega
  rw [if_pos h0, List.getElem?_eq_getElem hl]
  simp [hs _ (List.getElem_mem hl)]
theorem app_eq {sz b : Nat} {xs ys : List (List D)} (h : (xs.length + ys.length) * b ≤ 140737488355328) (hy : ∀ y ∈ ys, y.length = sz) : app sz b xs ys = some (xs ++ ys) := by
  unfold app; rw [if_pos ⟨h, hy⟩]
theorem cat_eq {s t : List UInt8} (h : s.length + t.length ≤ 9223372036854775807) : cat s t = some (s ++ t) := by unfold cat; rw [if_pos h]
theorem byteRow_len (s : List UInt8) : (byteRow s).length = s.length := by simp [byteRow]
theorem byteRow_sz (s : List UInt8) : ∀ y ∈ byteRow s, y.length = 1 := by
  intro y hy
  unfold byteRow at hy
  obtain ⟨b, _, rfl⟩ := List.mem_map.1 hy
  rfl
theorem byteRow_append (s t : List UInt8) : byteRow (s ++ t) = byteRow s ++ byteRow t := by simp [byteRow]
theorem byteRow_one (n : Int) (h0 : 0 ≤ n) (h1 : n < 256) : [[D.int .u8 n]] = byteRow [UInt8.ofNat n.toNat] := by
  unfold byteRow
  simp only [List.map_cons, List.map_nil, UInt8.toNat_ofNat']
  have : ((n.toNat % 2 ^ 8 : Nat) : Int) = n := by omega
  rw [this]
theorem rowStr_byteRow (s : List UInt8) : rowStr (byteRow s) = some s := by
  unfold rowStr
  induction s with
  | nil => rfl
  | cons b s ih =>
    have e : byteRow (b :: s) = [D.int .u8 b.toNat] :: byteRow s := rfl
    rw [e]
    have e2 : I.byteOf [D.int .u8 b.toNat] = some b := by simp [I.byteOf]
    simp only [omap, e2, Option.bind_some, ih]
theorem wraps_i64 (n : Int) (h0 : 0 ≤ n) (h1 : n < 2 ^ 31) : IntKind.i64.wrap n = n := by rw [IntKind.wrap_i64]; omega
theorem and31 {x : Int} (h0 : 0 ≤ x) (h1 : x < 256) : andv .i64 x 31 = x % 32 := by
  have h : ∀ n : Fin 256, andv .i64 (n.val : Int) 31 = (n.val : Int) % 32 := by decide +kernel
  have := h ⟨x.toNat, by omega⟩
  simp only [Int.toNat_of_nonneg h0] at this
  exact this
theorem and31u {x : Int} (h0 : 0 ≤ x) (h1 : x < 256) : andv .u8 x 31 = x % 32 := by
  have h : ∀ n : Fin 256, andv .u8 (n.val : Int) 31 = (n.val : Int) % 32 := by decide +kernel
  have := h ⟨x.toNat, by omega⟩
  simp only [Int.toNat_of_nonneg h0] at this
  exact this
theorem and32 {x : Int} (h0 : 0 ≤ x) (h1 : x < 256) : andv .i64 x 32 = x / 32 % 2 * 32 := by
  have h : ∀ n : Fin 256, andv .i64 (n.val : Int) 32 = (n.val : Int) / 32 % 2 * 32 := by decide +kernel
  have := h ⟨x.toNat, by omega⟩
  simp only [Int.toNat_of_nonneg h0] at this
  exact this
theorem orv_bits (k : IntKind) (a b : Int) : orv k a b = Go.bits .or k a b := rfl
theorem or8 {x y : Int} (h0 : 0 ≤ x) (h1 : x < 8388608) (h2 : 0 ≤ y) (h3 : y < 256) : orv .i64 (x * 256) y = x * 256 + y :=
  bits_join .i64 31 (by decide) wraps_i64 8 (x * 256) y (by omega) (by omega) (by omega) h2 (by omega) (by omega)
theorem shl8 {x : Int} (h0 : 0 ≤ x) (h1 : x < 8388608) : shlv .i64 x 8 = x * 256 := by
  unfold shlv
  have : min (8 : Int).toNat IntKind.i64.bits = 8 := by decide
  rw [this, w64 (by omega) (by omega)]
  rfl
theorem shr8 (x : Int) : shrv .i64 x 8 = x / 256 := by
  unfold shrv
  have : min (8 : Int).toNat IntKind.i64.bits = 8 := by decide
  rw [this]
  show x.fdiv 256 = x / 256
  rw [Int.fdiv_eq_ediv_of_nonneg _ (by omega)]
end Go.Proofs.YtcpidokhkcmdfaaGreat.B
