/- For the Go functions that the law reaches: a Lean function with the same answers, the proof that the code comes to them, and words for such proofs. Conditions: those of each theorem. Written by the session's patched copy of the print; not the kit's own print. -/
import Derived.Test.YtjlcmahknldjpaaXBerx0
import Derived.Test.YtjlcmahknldjpaaXBerx2
namespace Go.Proofs.Ytjlcmahknldjpaa.XBer
open Go.RowKit Go.Proofs.YtjlcmahknldjpaaV.PrintWords Go.Proofs.YtjlcmahknldjpaaV.PrintLast Go.Proofs.YtjlcmahknldjpaaV.PrintMore
attribute [local go_sem] max2_int min2_int max_two min_two max_three min_three max_four min_four   -- for this text's walks alone
set_option linter.unusedVariables false
set_option linter.unusedSimpArgs false

/-! ### ber_Int: function 16 -/
def ber_Int.l0 : Nat → Int → List Int → Int → Option (ByteArray)
  | 0, _, _, _ => none
  | k + 1, x0, x3, x4 => if x4 = 0 then ((slices_Reverse_byte_byte.f k x3).bind fun t149 => (some (strOfNums t149))) else (if x4 = (-1) then ((slices_Reverse_byte_byte.f k x3).bind fun t150 => (some (strOfNums t150))) else (if x3.length < 140737488355328 then (ber_Int.l0 k (x0 / 256) (x3 ++ [(x0 / 256) % 256]) (x4 / 256)) else (none)))
def ber_Int.f (k : Nat) (a0 : Int) : Option (ByteArray) := ber_Int.l0 k a0 (([(a0) % 256] : List Int)) (a0 / 128)
theorem ber_Int.mono_l : ∀ k, (∀ y0 y1 y2, LeO (ber_Int.l0 k y0 y1 y2) (ber_Int.l0 (k + 1) y0 y1 y2))
  | 0 => fun _ _ _ r h => by simp [ber_Int.l0] at h
  | k + 1 => by
    have ih0 := ber_Int.mono_l k
    · intro y0 y1 y2
      unfold ber_Int.l0
      repeat' first
      | (with_reducible exact ih0 _ _ _)
      | (with_reducible exact slices_Reverse_byte_byte.mono _ _)
      | (with_reducible exact LeO.refl _)
      | (with_reducible exact LeO.none _)
      | (with_reducible refine LeO.ite ?_ ?_)
      | (with_reducible refine LeO.bind ?_ (fun _ => ?_))
      | exact ih0 _ _ _
      | exact slices_Reverse_byte_byte.mono _ _
      | exact LeO.none _
      | refine LeO.ite ?_ ?_
      | refine LeO.bind ?_ (fun _ => ?_)
theorem ber_Int.mono : ∀ a0 k, LeO (ber_Int.f k a0) (ber_Int.f (k + 1) a0) := by
  intro a0 k
  have ih0 := ber_Int.mono_l k
  unfold ber_Int.f
  repeat' first
      | (with_reducible exact ih0 _ _ _)
      | (with_reducible exact slices_Reverse_byte_byte.mono _ _)
      | (with_reducible exact LeO.refl _)
      | (with_reducible exact LeO.none _)
      | (with_reducible refine LeO.ite ?_ ?_)
      | (with_reducible refine LeO.bind ?_ (fun _ => ?_))
      | exact ih0 _ _ _
      | exact slices_Reverse_byte_byte.mono _ _
      | exact LeO.none _
      | refine LeO.ite ?_ ?_
      | refine LeO.bind ?_ (fun _ => ?_)
set_option maxHeartbeats 8000000 in
set_option maxRecDepth 100000 in
theorem ber_Int.calls (k : Nat) (a0 : Int) (r : ByteArray) (w : World) (h : ber_Int.f k a0 = some r) :
    Calls Try.prog 16 #[.int .i64 a0] w fun e w' => e = .returned (.string r) ∧ Below w.heap.size w w' := by
  have HB := Aside0.mk (Below.refl w.heap.size w)
  have H : (ber_Int.l0 k a0 (([(a0) % 256] : List Int)) (a0 / 128)) = some r := h
  clear h
  obtain ⟨y146, hy146⟩ : ∃ y_ : List Int, y_ = (([(a0) % 256] : List Int)) := ⟨_, rfl⟩
  replace H : (ber_Int.l0 k a0 y146 (a0 / 128)) = some r := by first | (rw [hy146]; with_reducible exact H) | (have H2_ := (Option.bind_some _ _).symm.trans H; rw [hy146]; with_reducible exact H2_) | (have H2_ := (Option.bind_some _ _).symm.trans H; with_reducible exact H2_) | with_reducible exact H | (rw [hy146]; exact H) | exact H
  have Ny146 := Aside0.mk hy146
  clear hy146
  have H' := Aside0.mk H
  clear H
  go_enter Try.func16, Try.ntmps16
  go_wp2_with (first | ((with_reducible refine gate_dst (N := 7) rfl ?_); refine Kd.R_lit (Kd.int .u8) _ 5 ?hg (N := 7) ?hd (xs := ([(a0) % 256] : List Int)) (inner := [.int .u8 ((a0) % 256)]) (ok := fun _ => True) (okp := fun _ => True) ?hr ?hp (fun _ hk => hk) trivial (Below.refl _ _) (Nat.le_refl _) (by simp) ?_; (case hd => rfl); (case hg => rfl); (case hr => first | (go_simp; done) | (go_simp; rfl)); (case hp => exact (Reps.one (show Kd.M (Kd.int .u8) _ _ _ ((a0) % 256) [.int .u8 ((a0) % 256)] from rfl) (Reps.none _ _))); intro v147 w2 ho3 hb hg_ hnew_; clear hg_ hnew_; (first | rw [← Ny146.out] at ho3 | (simp only [Int.reduceToNat] at ho3; rw [← Ny146.out] at ho3)); have n0_ := Aside0.mk (Kd.R_lower ho3 (below_size (by repeat (first | (with_reducible first | exact HB.out | apply below_alloc | apply pw_below_drewN | apply below_drew1) | exact HB.out)))); have n1_ := Aside0.mk (below_step (by repeat (first | (with_reducible first | exact HB.out | apply below_alloc | apply pw_below_drewN | apply below_drew1) | exact HB.out)) hb); clear HB; have HO148 := n0_; have HB := n1_; clear n0_ n1_; clear hb ho3))
  go_loopg [0, 3, 4] k (fun kq v0 v3 v4 w' => ∃ (x0_1 : Int) (x3_1 : List Int) (x4_1 : Int), v0 = .int .i64 x0_1 ∧ v4 = .int .i64 x4_1 ∧ Aside0 (ber_Int.l0 kq x0_1 x3_1 x4_1 = some r) ∧ Aside0 (kq ≤ k) ∧ Aside0 (Kd.R (Kd.int .u8) 5 w' w.heap.size (fun _ => True) v3 x3_1) ∧ Aside0 (Below w.heap.size w w'))
  case atStart => exact ⟨(a0), (y146), (a0 / 128), (by first | rfl | (simp; done) | (simp [*]; done)), (by first | rfl | (simp; done) | (simp [*]; done)), H', ⟨Nat.le_refl _⟩, ⟨by (with_reducible repeat (first | apply Kd.R_alloc | apply Kd.R_drewN | apply Kd.R_drew)); exact HO148.out⟩, ⟨by repeat (first | (with_reducible first | exact HB.out | apply below_alloc | apply pw_below_drewN | apply below_drew1) | exact HB.out)⟩⟩
  case round =>
    clear H'
    try clear c1
    try clear p2
    obtain ⟨x0_1, x3_1, x4_1, rfl, rfl, HA, HK1, HO_3, HB⟩ := hrel
    cases gk with
    | zero => exact absurd HA.out (by simp [ber_Int.l0])
    | succ k1 =>
      have H := HA.out
      clear HA
      simp only [ber_Int.l0] at H
      by_cases c4 : x4_1 = 0
      · rw [if_pos c4] at H
        have c4b0 : (x4_1 == 0) = true := beq_iff_eq.mpr c4
        have c4b1 : (x4_1 != 0) = false := bne_eq_false_iff_eq.mpr c4
        clear c4
        replace H := Option.bind_eq_some_iff.mp H
        obtain ⟨t149, A50, H⟩ := H
        replace H : (some (strOfNums t149)) = some r := H
        have A5 := Aside0.mk A50
        clear A50
        obtain rfl := Option.some.inj H
        obtain ⟨Ao6, co6, eo6⟩ := Kd.R_slice HO_3.out
        subst eo6
        go_wp2_with (first | ((with_reducible refine gate_callee (f := 21) rfl ?_); refine goesL_ (some 26) rfl rfl Try.func21 (by kernel_rfl) rfl #[.slice Ao6 x3_1.length co6] rfl (by (try simp only [List.map_toArray, List.map_cons, List.map_nil]); first | done | rfl | (simp only [List.length_drop, List.length_take]; rfl)) ?_; (with_reducible refine (slices_Reverse_byte_byte.calls k1 (fun k_ => some k_ = (.slice Ao6 x3_1.length co6 : Value).ownBlock) (.slice Ao6 x3_1.length co6) x3_1 t149 w _ ?side1 ?side2 A5.out).mono ?_); (case side1 => repeat (first | (with_reducible first | exact HB.out | apply below_alloc | apply pw_below_drewN | apply below_drew1) | exact HB.out)); (case side2 => exact Kd.R_tight rfl HO_3.out); rintro e w7 ⟨rfl, hy0, hb, hkp⟩; refine ⟨_, rfl, ?_⟩; have n0_ := Aside0.mk (Kd.R_reok rfl hy0 (fun k_ e_ => HO_3.out.1 k_ e_)); have n1_ := Aside0.mk (hb); clear HO_3; clear HB; have HO_3 := n0_; have HB := n1_; clear n0_ n1_; (try clear hb); (try clear hkp); (try clear hy0); have hcv8 := own_string (P := Try.prog) Try.underlying35 Try.underlying5 Try.underlying9 (Kd.own_of_R HO_3.out)))
        go_ret
        exact ⟨by first | rfl | (simp [errW_none, errW_some] <;> rfl) | (simp [*, errW_none, errW_some] <;> rfl), by repeat (first | (with_reducible first | exact HB.out | apply below_alloc | apply pw_below_drewN | apply below_drew1) | exact HB.out)⟩
      · rw [if_neg c4] at H
        have c4b0 : (x4_1 == 0) = false := beq_eq_false_iff_ne.mpr c4
        have c4b1 : (x4_1 != 0) = true := bne_iff_ne.mpr c4
        by_cases c9 : x4_1 = (-1)
        · rw [if_pos c9] at H
          have c9b0 : (x4_1 == (-1)) = true := beq_iff_eq.mpr c9
          have c9b1 : (x4_1 != (-1)) = false := bne_eq_false_iff_eq.mpr c9
          clear c9
          replace H := Option.bind_eq_some_iff.mp H
          obtain ⟨t150, A100, H⟩ := H
          replace H : (some (strOfNums t150)) = some r := H
          have A10 := Aside0.mk A100
          clear A100
          obtain rfl := Option.some.inj H
          obtain ⟨Ao11, co11, eo11⟩ := Kd.R_slice HO_3.out
          subst eo11
          go_wp2_with (first | ((with_reducible refine gate_callee (f := 21) rfl ?_); refine goesL_ (some 26) rfl rfl Try.func21 (by kernel_rfl) rfl #[.slice Ao11 x3_1.length co11] rfl (by (try simp only [List.map_toArray, List.map_cons, List.map_nil]); first | done | rfl | (simp only [List.length_drop, List.length_take]; rfl)) ?_; (with_reducible refine (slices_Reverse_byte_byte.calls k1 (fun k_ => some k_ = (.slice Ao11 x3_1.length co11 : Value).ownBlock) (.slice Ao11 x3_1.length co11) x3_1 t150 w _ ?side1 ?side2 A10.out).mono ?_); (case side1 => repeat (first | (with_reducible first | exact HB.out | apply below_alloc | apply pw_below_drewN | apply below_drew1) | exact HB.out)); (case side2 => exact Kd.R_tight rfl HO_3.out); rintro e w12 ⟨rfl, hy0, hb, hkp⟩; refine ⟨_, rfl, ?_⟩; have n0_ := Aside0.mk (Kd.R_reok rfl hy0 (fun k_ e_ => HO_3.out.1 k_ e_)); have n1_ := Aside0.mk (hb); clear HO_3; clear HB; have HO_3 := n0_; have HB := n1_; clear n0_ n1_; (try clear hb); (try clear hkp); (try clear hy0); have hcv13 := own_string (P := Try.prog) Try.underlying35 Try.underlying5 Try.underlying9 (Kd.own_of_R HO_3.out)))
          go_ret
          exact ⟨by first | rfl | (simp [errW_none, errW_some] <;> rfl) | (simp [*, errW_none, errW_some] <;> rfl), by repeat (first | (with_reducible first | exact HB.out | apply below_alloc | apply pw_below_drewN | apply below_drew1) | exact HB.out)⟩
        · rw [if_neg c9] at H
          have c9b0 : (x4_1 == (-1)) = false := beq_eq_false_iff_ne.mpr c9
          have c9b1 : (x4_1 != (-1)) = true := bne_iff_ne.mpr c9
          by_cases c14 : x3_1.length < 140737488355328
          · rw [if_pos c14] at H
            have LMc14 := Aside0.mk c14
            clear c14
            obtain ⟨y151, hy151⟩ : ∃ y_ : List Int, y_ = (x3_1 ++ [(x0_1 / 256) % 256]) := ⟨_, rfl⟩
            replace H : (ber_Int.l0 k1 (x0_1 / 256) y151 (x4_1 / 256)) = some r := by first | (rw [hy151]; with_reducible exact H) | (have H2_ := (Option.bind_some _ _).symm.trans H; rw [hy151]; with_reducible exact H2_) | (have H2_ := (Option.bind_some _ _).symm.trans H; with_reducible exact H2_) | with_reducible exact H | (rw [hy151]; exact H) | exact H
            have Ny151 := Aside0.mk hy151
            clear hy151
            have H' := Aside0.mk H
            clear H
            go_wp2_with (first | ((with_reducible refine gate_builtin (b := .append) (xs := #[.tmp 20, .tmp 23]) rfl ?_); at_builtin; refine Kd.R_append (Kd.int .u8) (w0 := w) w.heap.size rfl (.tmp 20) (.tmp 23) 35 5 (.int .u8 0) 1 rfl Try.underlying35 info5 rfl (by decide) (by omega) u3 x3_1 ((x0_1 / 256) % 256) [.int .u8 ((x0_1 / 256) % 256)] (fun _ => True) (fun _ => False) rfl rfl ?aP (fun _ hk => hk.elim) ?aF ?aO ?aB ?aS ?aL ?_; (case aP => exact rfl); (case aB => exact (by repeat (first | (with_reducible first | exact HB.out | apply below_alloc | apply pw_below_drewN | apply below_drew1) | exact HB.out))); (case aF => exact (fun _ _ => trivial)); (case aO => exact (by (with_reducible repeat (first | apply Kd.R_alloc | apply Kd.R_drewN | apply Kd.R_drew)); exact HO_3.out)); (case aS => exact (below_size (by repeat (first | (with_reducible first | exact HB.out | apply below_alloc | apply pw_below_drewN | apply below_drew1) | exact HB.out)))); (case aL => have := LMc14.out; omega); intro v152 w15 ho hb hg hat; rw [← Ny151.out] at ho; have n0_ := Aside0.mk (hb); have n1_ := Aside0.mk (ho); clear HB; clear HO_3; have HB := n0_; have HO153 := n1_; clear n0_ n1_; clear ho hb hg hat))
            go_roundg k1
            case measure => have := HK1.out; omega
            case rel => exact ⟨(x0_1 / 256), (y151), (x4_1 / 256), (by first | rfl | (simp; done) | (simp [*]; done)), (by first | rfl | (simp; done) | (simp [*]; done)), H', ⟨by have := HK1.out; omega⟩, ⟨by (with_reducible repeat (first | apply Kd.R_alloc | apply Kd.R_drewN | apply Kd.R_drew)); exact HO153.out⟩, ⟨by repeat (first | (with_reducible first | exact HB.out | apply below_alloc | apply pw_below_drewN | apply below_drew1) | exact HB.out)⟩⟩
          · rw [if_neg c14] at H
            exact absurd H (by simp)

/-! ### brooklaw1_awake: function 8 -/
def brooklaw1_awake.f (k : Nat)  : Option (Bool) := (ber_Put.f k 4 (⟨#[97, 98]⟩ : ByteArray) ([] : List (S25))).bind fun t154 => (if t154.toList = ([4, 2, 97, 98] : List UInt8) then ((ber_Int.f k 128).bind fun t155 => (some (t155.toList == ([0, 128] : List UInt8)))) else (some false))
theorem brooklaw1_awake.mono : ∀ k, LeO (brooklaw1_awake.f k ) (brooklaw1_awake.f (k + 1) ) := by
  intro  k
  unfold brooklaw1_awake.f
  repeat' first
      | (with_reducible exact ber_Int.mono _ _)
      | (with_reducible exact ber_Put.mono _ _ _ _)
      | (with_reducible exact LeO.refl _)
      | (with_reducible exact LeO.none _)
      | (with_reducible refine LeO.ite ?_ ?_)
      | (with_reducible refine LeO.bind ?_ (fun _ => ?_))
      | exact ber_Int.mono _ _
      | exact ber_Put.mono _ _ _ _
      | exact LeO.none _
      | refine LeO.ite ?_ ?_
      | refine LeO.bind ?_ (fun _ => ?_)
set_option maxHeartbeats 8000000 in
set_option maxRecDepth 100000 in
theorem brooklaw1_awake.calls (k : Nat)  (r : Bool) (w : World) (h : brooklaw1_awake.f k  = some r) :
    Calls Try.prog 8 #[] w fun e w' => e = .returned (.bool r) ∧ Below w.heap.size w w' := by
  have hu25 := Try.underlying25
  have HB := Aside0.mk (Below.refl w.heap.size w)
  have H : ((ber_Put.f k 4 (⟨#[97, 98]⟩ : ByteArray) ([] : List (S25))).bind fun t154 => (if t154.toList = ([4, 2, 97, 98] : List UInt8) then ((ber_Int.f k 128).bind fun t155 => (some (t155.toList == ([0, 128] : List UInt8)))) else (some false))) = some r := h
  clear h
  replace H := Option.bind_eq_some_iff.mp H
  obtain ⟨t154, A10, H⟩ := H
  replace H : (if t154.toList = ([4, 2, 97, 98] : List UInt8) then ((ber_Int.f k 128).bind fun t155 => (some (t155.toList == ([0, 128] : List UInt8)))) else (some false)) = some r := H
  have A1 := Aside0.mk A10
  clear A10
  by_cases c2 : t154.toList = ([4, 2, 97, 98] : List UInt8)
  · rw [if_pos c2] at H
    have c2b0 : (t154.toList == ([4, 2, 97, 98] : List UInt8)) = true := beq_iff_eq.mpr c2
    have c2b1 : (t154.toList != ([4, 2, 97, 98] : List UInt8)) = false := bne_eq_false_iff_eq.mpr c2
    clear c2
    replace H := Option.bind_eq_some_iff.mp H
    obtain ⟨t155, A30, H⟩ := H
    replace H : (some (t155.toList == ([0, 128] : List UInt8))) = some r := H
    have A3 := Aside0.mk A30
    clear A30
    obtain rfl := Option.some.inj H
    go_enter Try.func8, Try.ntmps8
    go_wp2_with (first | ((with_reducible refine gate_callee (f := 14) rfl ?_); refine goesL_ (some 2) rfl rfl Try.func14 (by kernel_rfl) rfl #[.agg #[.int .i64 4, .string (⟨#[97, 98]⟩ : ByteArray), .slice none 0 0]] rfl (by (try simp only [List.map_toArray, List.map_cons, List.map_nil]); first | done | rfl | (simp only [List.length_drop, List.length_take]; rfl)) ?_; (refine (ber_Put.calls k 4 (⟨#[97, 98]⟩ : ByteArray) _ _ ([] : List (S25)) t154 _ ?side1 ?side2 A1.out).mono ?_); (case side1 => exact Kd.C_nil _ _); (case side2 => exact Nat.le_refl _); rintro e w4 ⟨rfl, hb⟩; refine ⟨_, rfl, ?_⟩; have n0_ := Aside0.mk (below_step (by repeat (first | (with_reducible first | exact HB.out | apply below_alloc | apply pw_below_drewN | apply below_drew1) | exact HB.out)) hb); clear HB; have HB := n0_; clear n0_; (try clear hb); (try clear hb2); (try clear hk); (try clear hi)) | (go_at_call 16; (with_reducible refine (ber_Int.calls k 128 t155 _ A3.out).mono ?_); rintro e w5 ⟨rfl, hb⟩; have n0_ := Aside0.mk (below_step (by repeat (first | (with_reducible first | exact HB.out | apply below_alloc | apply pw_below_drewN | apply below_drew1) | exact HB.out)) hb); clear HB; have HB := n0_; clear n0_; (try clear hb); (try clear hb2); (try clear hk); (try clear hi)))
    go_ret
    exact ⟨by first | rfl | (simp [errW_none, errW_some] <;> rfl) | (simp [*, errW_none, errW_some] <;> rfl), by repeat (first | (with_reducible first | exact HB.out | apply below_alloc | apply pw_below_drewN | apply below_drew1) | exact HB.out)⟩
  · rw [if_neg c2] at H
    have c2b0 : (t154.toList == ([4, 2, 97, 98] : List UInt8)) = false := beq_eq_false_iff_ne.mpr c2
    have c2b1 : (t154.toList != ([4, 2, 97, 98] : List UInt8)) = true := bne_iff_ne.mpr c2
    obtain rfl := Option.some.inj H
    go_enter Try.func8, Try.ntmps8
    go_wp2_with (first | ((with_reducible refine gate_callee (f := 14) rfl ?_); refine goesL_ (some 2) rfl rfl Try.func14 (by kernel_rfl) rfl #[.agg #[.int .i64 4, .string (⟨#[97, 98]⟩ : ByteArray), .slice none 0 0]] rfl (by (try simp only [List.map_toArray, List.map_cons, List.map_nil]); first | done | rfl | (simp only [List.length_drop, List.length_take]; rfl)) ?_; (refine (ber_Put.calls k 4 (⟨#[97, 98]⟩ : ByteArray) _ _ ([] : List (S25)) t154 _ ?side1 ?side2 A1.out).mono ?_); (case side1 => exact Kd.C_nil _ _); (case side2 => exact Nat.le_refl _); rintro e w6 ⟨rfl, hb⟩; refine ⟨_, rfl, ?_⟩; have n0_ := Aside0.mk (below_step (by repeat (first | (with_reducible first | exact HB.out | apply below_alloc | apply pw_below_drewN | apply below_drew1) | exact HB.out)) hb); clear HB; have HB := n0_; clear n0_; (try clear hb); (try clear hb2); (try clear hk); (try clear hi)))
    go_ret
    exact ⟨by first | rfl | (simp [errW_none, errW_some] <;> rfl) | (simp [*, errW_none, errW_some] <;> rfl), by repeat (first | (with_reducible first | exact HB.out | apply below_alloc | apply pw_below_drewN | apply below_drew1) | exact HB.out)⟩

/-! ### ber_head: function 22 -/
mutual
def ber_head.j0 : Nat → ByteArray → Int → Bool → Option (Int × Int × Int × Int)
  | 0, _, _, _ => none
  | k + 1, x0, x1, x18 => if x18 = true then (some (0, 0, 0, 1)) else (if 0 ≤ x1 then (if x1 ≤ (x0.size : Int) then ((some (x0.extract (x1 : Int).toNat x0.size : ByteArray)).bind fun y156 => (if y156.toList = ([] : List UInt8) then (some (0, 0, 0, 6)) else (if 0 < (y156.size : Int) then (if (Go.bits .and .i64 (wrap64 (bt y156 0)) 31) = 31 then (some (0, 0, 0, 5)) else (if (y156.size : Int) < 2 then (some (0, 0, 0, 6)) else (if 1 < (y156.size : Int) then (if (wrap64 (bt y156 1)) ≥ 128 then (if (wrap64 ((wrap64 (bt y156 1)) - 128)) < 1 then (ber_head.j1 k y156 x1 (wrap64 (bt y156 0)) 2 (wrap64 ((wrap64 (bt y156 1)) - 128)) true) else (ber_head.j1 k y156 x1 (wrap64 (bt y156 0)) 2 (wrap64 ((wrap64 (bt y156 1)) - 128)) (decide ((wrap64 ((wrap64 (bt y156 1)) - 128)) > 3)))) else (if (wrap64 ((y156.size : Int) - 2)) < (wrap64 (bt y156 1)) then (some (0, 0, 0, 6)) else (some (wrap64 (bt y156 0), wrap64 (x1 + 2), wrap64 ((wrap64 (x1 + 2)) + (wrap64 (bt y156 1))), 0)))) else (none)))) else (none)))) else (none)) else (none))
def ber_head.j1 : Nat → ByteArray → Int → Int → Int → Int → Bool → Option (Int × Int × Int × Int)
  | 0, _, _, _, _, _, _ => none
  | k + 1, x0, x1, x4, x5, x9, x45 => if x45 = true then (some (0, 0, 0, 5)) else (if (x0.size : Int) < (wrap64 (2 + x9)) then (some (0, 0, 0, 6)) else (ber_head.l0 k x0 x1 x4 x5 0 x9 x9 0))
def ber_head.l0 : Nat → ByteArray → Int → Int → Int → Int → Int → Int → Int → Option (Int × Int × Int × Int)
  | 0, _, _, _, _, _, _, _, _ => none
  | k + 1, x0, x1, x4, x5, x8, x9, x51, x52 => if x52 < x51 then (if 0 ≤ (wrap64 (2 + x52)) then (if (wrap64 (2 + x52)) < (x0.size : Int) then (ber_head.l0 k x0 x1 x4 x5 (Go.bits .or .i64 (wrap64 (x8 * 256)) (wrap64 (bt x0 (wrap64 (2 + x52))))) x9 x51 (wrap64 (x52 + 1))) else (none)) else (none)) else (if 2 < (x0.size : Int) then (if (bt x0 2) = 0 then (ber_head.j3 k x0 x1 x4 x5 x8 x9 true) else (if x8 < 128 then (ber_head.j3 k x0 x1 x4 x5 x8 x9 true) else (ber_head.j3 k x0 x1 x4 x5 x8 x9 (decide (x8 > 1048576))))) else (none))
def ber_head.j3 : Nat → ByteArray → Int → Int → Int → Int → Int → Bool → Option (Int × Int × Int × Int)
  | 0, _, _, _, _, _, _, _ => none
  | k + 1, x0, x1, x4, x5, x8, x9, x74 => if x74 = true then (some (0, 0, 0, 5)) else (if (wrap64 ((x0.size : Int) - (wrap64 (x5 + x9)))) < x8 then (some (0, 0, 0, 6)) else (some (x4, wrap64 (x1 + (wrap64 (x5 + x9))), wrap64 ((wrap64 (x1 + (wrap64 (x5 + x9)))) + x8), 0)))
end
def ber_head.f (k : Nat) (a0 : ByteArray) (a1 : Int) : Option (Int × Int × Int × Int) := if a1 < 0 then (ber_head.j0 k a0 a1 true) else (ber_head.j0 k a0 a1 (decide (a1 > (a0.size : Int))))
theorem ber_head.mono_l : ∀ k, (∀ y0 y1 y2, LeO (ber_head.j0 k y0 y1 y2) (ber_head.j0 (k + 1) y0 y1 y2)) ∧ (∀ y0 y1 y2 y3 y4 y5, LeO (ber_head.j1 k y0 y1 y2 y3 y4 y5) (ber_head.j1 (k + 1) y0 y1 y2 y3 y4 y5)) ∧ (∀ y0 y1 y2 y3 y4 y5 y6 y7, LeO (ber_head.l0 k y0 y1 y2 y3 y4 y5 y6 y7) (ber_head.l0 (k + 1) y0 y1 y2 y3 y4 y5 y6 y7)) ∧ (∀ y0 y1 y2 y3 y4 y5 y6, LeO (ber_head.j3 k y0 y1 y2 y3 y4 y5 y6) (ber_head.j3 (k + 1) y0 y1 y2 y3 y4 y5 y6))
  | 0 => ⟨fun _ _ _ r h => by simp [ber_head.j0] at h, fun _ _ _ _ _ _ r h => by simp [ber_head.j1] at h, fun _ _ _ _ _ _ _ _ r h => by simp [ber_head.l0] at h, fun _ _ _ _ _ _ _ r h => by simp [ber_head.j3] at h⟩
  | k + 1 => by
    obtain ⟨ih0, ih1, ih2, ih3⟩ := ber_head.mono_l k
    refine ⟨?_, ?_, ?_, ?_⟩
    · intro y0 y1 y2
      unfold ber_head.j0
      repeat' first
      | (with_reducible exact ih0 _ _ _)
      | (with_reducible exact ih1 _ _ _ _ _ _)
      | (with_reducible exact ih2 _ _ _ _ _ _ _ _)
      | (with_reducible exact ih3 _ _ _ _ _ _ _)
      | (with_reducible exact LeO.refl _)
      | (with_reducible exact LeO.none _)
      | (with_reducible refine LeO.ite ?_ ?_)
      | (with_reducible refine LeO.bind ?_ (fun _ => ?_))
      | exact ih0 _ _ _
      | exact ih1 _ _ _ _ _ _
      | exact ih2 _ _ _ _ _ _ _ _
      | exact ih3 _ _ _ _ _ _ _
      | exact LeO.none _
      | refine LeO.ite ?_ ?_
      | refine LeO.bind ?_ (fun _ => ?_)
    · intro y0 y1 y2 y3 y4 y5
      unfold ber_head.j1
      repeat' first
      | (with_reducible exact ih0 _ _ _)
      | (with_reducible exact ih1 _ _ _ _ _ _)
      | (with_reducible exact ih2 _ _ _ _ _ _ _ _)
      | (with_reducible exact ih3 _ _ _ _ _ _ _)
      | (with_reducible exact LeO.refl _)
      | (with_reducible exact LeO.none _)
      | (with_reducible refine LeO.ite ?_ ?_)
      | (with_reducible refine LeO.bind ?_ (fun _ => ?_))
      | exact ih0 _ _ _
      | exact ih1 _ _ _ _ _ _
      | exact ih2 _ _ _ _ _ _ _ _
      | exact ih3 _ _ _ _ _ _ _
      | exact LeO.none _
      | refine LeO.ite ?_ ?_
      | refine LeO.bind ?_ (fun _ => ?_)
    · intro y0 y1 y2 y3 y4 y5 y6 y7
      unfold ber_head.l0
      repeat' first
      | (with_reducible exact ih0 _ _ _)
      | (with_reducible exact ih1 _ _ _ _ _ _)
      | (with_reducible exact ih2 _ _ _ _ _ _ _ _)
      | (with_reducible exact ih3 _ _ _ _ _ _ _)
      | (with_reducible exact LeO.refl _)
      | (with_reducible exact LeO.none _)
      | (with_reducible refine LeO.ite ?_ ?_)
      | (with_reducible refine LeO.bind ?_ (fun _ => ?_))
      | exact ih0 _ _ _
      | exact ih1 _ _ _ _ _ _
      | exact ih2 _ _ _ _ _ _ _ _
      | exact ih3 _ _ _ _ _ _ _
      | exact LeO.none _
      | refine LeO.ite ?_ ?_
      | refine LeO.bind ?_ (fun _ => ?_)
    · intro y0 y1 y2 y3 y4 y5 y6
      unfold ber_head.j3
      repeat' first
      | (with_reducible exact ih0 _ _ _)
      | (with_reducible exact ih1 _ _ _ _ _ _)
      | (with_reducible exact ih2 _ _ _ _ _ _ _ _)
      | (with_reducible exact ih3 _ _ _ _ _ _ _)
      | (with_reducible exact LeO.refl _)
      | (with_reducible exact LeO.none _)
      | (with_reducible refine LeO.ite ?_ ?_)
      | (with_reducible refine LeO.bind ?_ (fun _ => ?_))
      | exact ih0 _ _ _
      | exact ih1 _ _ _ _ _ _
      | exact ih2 _ _ _ _ _ _ _ _
      | exact ih3 _ _ _ _ _ _ _
      | exact LeO.none _
      | refine LeO.ite ?_ ?_
      | refine LeO.bind ?_ (fun _ => ?_)
theorem ber_head.mono : ∀ a0 a1 k, LeO (ber_head.f k a0 a1) (ber_head.f (k + 1) a0 a1) := by
  intro a0 a1 k
  obtain ⟨ih0, ih1, ih2, ih3⟩ := ber_head.mono_l k
  unfold ber_head.f
  repeat' first
      | (with_reducible exact ih0 _ _ _)
      | (with_reducible exact ih1 _ _ _ _ _ _)
      | (with_reducible exact ih2 _ _ _ _ _ _ _ _)
      | (with_reducible exact ih3 _ _ _ _ _ _ _)
      | (with_reducible exact LeO.refl _)
      | (with_reducible exact LeO.none _)
      | (with_reducible refine LeO.ite ?_ ?_)
      | (with_reducible refine LeO.bind ?_ (fun _ => ?_))
      | exact ih0 _ _ _
      | exact ih1 _ _ _ _ _ _
      | exact ih2 _ _ _ _ _ _ _ _
      | exact ih3 _ _ _ _ _ _ _
      | exact LeO.none _
      | refine LeO.ite ?_ ?_
      | refine LeO.bind ?_ (fun _ => ?_)
set_option maxHeartbeats 8000000 in
set_option maxRecDepth 100000 in
theorem ber_head.calls (k : Nat) (a0 : ByteArray) (a1 : Int) (r1 : Int) (r2 : Int) (r3 : Int) (r4 : Int) (w : World) (h : ber_head.f k a0 a1 = some (r1, r2, r3, r4)) :
    Calls Try.prog 22 #[.string a0, .int .i64 a1] w fun e w' => e = .returned (.tuple #[.int .i64 r1, .int .i64 r2, .int .i64 r3, .int .i64 r4]) ∧ Drawn0 w w' := by
  have H : (if a1 < 0 then (ber_head.j0 k a0 a1 true) else (ber_head.j0 k a0 a1 (decide (a1 > (a0.size : Int))))) = some (r1, r2, r3, r4) := h
  clear h
  have HC3 := Aside0.mk H
  clear H
  go_enter Try.func22, Try.ntmps22
  go_upto_region 1 with (fail)
  go_cut [18] (fun v18 wc => ∃ (kq : Nat) (x18_2 : Bool), v18 = .bool x18_2 ∧ Aside0 (ber_head.j0 kq a0 a1 x18_2 = some (r1, r2, r3, r4)) ∧ Aside0 (kq ≤ k) ∧ Drawn0 w wc)
  case first =>
    have H := HC3.out
    clear HC3
    by_cases c4 : a1 < 0
    · rw [if_pos c4] at H
      have c4b0 : decide (a1 < 0) = true := decide_eq_true c4
      clear c4
      (first | rw [c4b0] | (simp only [i64_w, i32_w]; rw [c4b0]) | skip)
      have H' := Aside0.mk H
      clear H
      go_wp2
      go_meet
      case rel => exact ⟨_, (true), (by first | rfl | (simp; done) | (simp [*]; done)), H', ⟨by first | omega | exact Nat.le_refl _⟩, by repeat (first | exact Drawn0.refl _ | apply Drawn0.step)⟩
    · rw [if_neg c4] at H
      have c4b0 : decide (a1 < 0) = false := decide_eq_false c4
      clear c4
      (first | rw [c4b0] | (simp only [i64_w, i32_w]; rw [c4b0]) | skip)
      have H' := Aside0.mk H
      clear H
      go_wp2
      go_meet
      case rel => exact ⟨_, (decide (a1 > (a0.size : Int))), (by first | rfl | (simp; done) | (simp [*]; done)), H', ⟨by first | omega | exact Nat.le_refl _⟩, by repeat (first | exact Drawn0.refl _ | apply Drawn0.step)⟩
  case rest =>
    clear HC3
    try clear c2
    try clear p2
    try clear c4
    try clear c4b0
    obtain ⟨kq, x18_2, rfl, HA, HJ2, ⟨mc2, rfl⟩⟩ := hcut
    cases kq with
    | zero => exact absurd HA.out (by simp [ber_head.j0])
    | succ kj2 =>
      have H := HA.out
      clear HA
      simp only [ber_head.j0] at H
      by_cases c5 : x18_2 = true
      · subst c5
        have H1 : (some (0, 0, 0, 1)) = some (r1, r2, r3, r4) := by rw [if_pos rfl] at H; exact H
        clear H
        have H := H1
        clear H1
        simp only [Option.some.injEq, Prod.mk.injEq] at H
        obtain ⟨rfl, rfl, rfl, rfl⟩ := H
        go_wp2
        refine bodyPost_ret (results_list (rs := [.tmp 4, .tmp 5, .tmp 6, .tmp 7]) rfl (by simp) (.tmp (.tmp (.tmp (.tmp .nil))))) rfl ?_
        exact ⟨by first | rfl | (simp; done) | (simp [*]; done), by repeat (first | exact Drawn0.refl _ | apply Drawn0.step)⟩
      · replace c5 := Bool.eq_false_iff.mpr c5
        subst c5
        have H1 : (if 0 ≤ a1 then (if a1 ≤ (a0.size : Int) then ((some (a0.extract (a1 : Int).toNat a0.size : ByteArray)).bind fun y156 => (if y156.toList = ([] : List UInt8) then (some (0, 0, 0, 6)) else (if 0 < (y156.size : Int) then (if (Go.bits .and .i64 (wrap64 (bt y156 0)) 31) = 31 then (some (0, 0, 0, 5)) else (if (y156.size : Int) < 2 then (some (0, 0, 0, 6)) else (if 1 < (y156.size : Int) then (if (wrap64 (bt y156 1)) ≥ 128 then (if (wrap64 ((wrap64 (bt y156 1)) - 128)) < 1 then (ber_head.j1 kj2 y156 a1 (wrap64 (bt y156 0)) 2 (wrap64 ((wrap64 (bt y156 1)) - 128)) true) else (ber_head.j1 kj2 y156 a1 (wrap64 (bt y156 0)) 2 (wrap64 ((wrap64 (bt y156 1)) - 128)) (decide ((wrap64 ((wrap64 (bt y156 1)) - 128)) > 3)))) else (if (wrap64 ((y156.size : Int) - 2)) < (wrap64 (bt y156 1)) then (some (0, 0, 0, 6)) else (some (wrap64 (bt y156 0), wrap64 (a1 + 2), wrap64 ((wrap64 (a1 + 2)) + (wrap64 (bt y156 1))), 0)))) else (none)))) else (none)))) else (none)) else (none)) = some (r1, r2, r3, r4) := by rw [if_neg (show ¬ (false = true) by decide)] at H; exact H
        clear H
        have H := H1
        clear H1
        by_cases c6 : 0 ≤ a1
        · rw [if_pos c6] at H
          have c6b0 := eq_true c6
          have c6b1 : decide (0 ≤ a1) = true := decide_eq_true c6
          clear c6
          by_cases c7 : a1 ≤ (a0.size : Int)
          · rw [if_pos c7] at H
            have c7b0 := eq_true c7
            have c7b1 : decide (a1 ≤ (a0.size : Int)) = true := decide_eq_true c7
            clear c7
            obtain ⟨y156, hy156⟩ : ∃ y_ : ByteArray, y_ = (a0.extract (a1 : Int).toNat a0.size) := ⟨_, rfl⟩
            replace H : (if y156.toList = ([] : List UInt8) then (some (0, 0, 0, 6)) else (if 0 < (y156.size : Int) then (if (Go.bits .and .i64 (wrap64 (bt y156 0)) 31) = 31 then (some (0, 0, 0, 5)) else (if (y156.size : Int) < 2 then (some (0, 0, 0, 6)) else (if 1 < (y156.size : Int) then (if (wrap64 (bt y156 1)) ≥ 128 then (if (wrap64 ((wrap64 (bt y156 1)) - 128)) < 1 then (ber_head.j1 kj2 y156 a1 (wrap64 (bt y156 0)) 2 (wrap64 ((wrap64 (bt y156 1)) - 128)) true) else (ber_head.j1 kj2 y156 a1 (wrap64 (bt y156 0)) 2 (wrap64 ((wrap64 (bt y156 1)) - 128)) (decide ((wrap64 ((wrap64 (bt y156 1)) - 128)) > 3)))) else (if (wrap64 ((y156.size : Int) - 2)) < (wrap64 (bt y156 1)) then (some (0, 0, 0, 6)) else (some (wrap64 (bt y156 0), wrap64 (a1 + 2), wrap64 ((wrap64 (a1 + 2)) + (wrap64 (bt y156 1))), 0)))) else (none)))) else (none))) = some (r1, r2, r3, r4) := by first | (rw [hy156]; with_reducible exact H) | (have H2_ := (Option.bind_some _ _).symm.trans H; rw [hy156]; with_reducible exact H2_) | (have H2_ := (Option.bind_some _ _).symm.trans H; with_reducible exact H2_) | with_reducible exact H | (rw [hy156]; exact H) | exact H
            have Ny156 := Aside0.mk hy156
            clear hy156
            by_cases c8 : y156.toList = ([] : List UInt8)
            · rw [if_pos c8] at H
              have c8b0 : (y156.toList == ([] : List UInt8)) = true := beq_iff_eq.mpr c8
              have c8b1 : (y156.toList != ([] : List UInt8)) = false := bne_eq_false_iff_eq.mpr c8
              clear c8
              simp only [Option.some.injEq, Prod.mk.injEq] at H
              obtain ⟨rfl, rfl, rfl, rfl⟩ := H
              go_wp2_with (first | ((with_reducible refine gate_dst (N := 21) rfl ?_); (try (refine gate_guard (by rfl) ?_; dsimp only)); refine str_event (y := y156) Ny156.out ?hg (N := 21) ?hd ?hr ?_; (case hd => rfl); (case hg => rfl); (case hr => first | (go_simp; done) | (go_simp; rfl))))
              refine bodyPost_ret (results_list (rs := [.tmp 4, .tmp 5, .tmp 6, .tmp 7]) rfl (by simp) (.tmp (.tmp (.tmp (.tmp .nil))))) rfl ?_
              exact ⟨by first | rfl | (simp; done) | (simp [*]; done), by repeat (first | exact Drawn0.refl _ | apply Drawn0.step)⟩
            · rw [if_neg c8] at H
              have c8b0 : (y156.toList == ([] : List UInt8)) = false := beq_eq_false_iff_ne.mpr c8
              have c8b1 : (y156.toList != ([] : List UInt8)) = true := bne_iff_ne.mpr c8
              by_cases c9 : 0 < (y156.size : Int)
              · rw [if_pos c9] at H
                have c9b0 : decide (0 < (y156.size : Int)) = true := decide_eq_true c9
                have c9b1 : decide (0 < y156.size) = true := decide_eq_true (by omega)
                clear c9
                by_cases c11 : (Go.bits .and .i64 (wrap64 (bt y156 0)) 31) = 31
                · rw [if_pos c11] at H
                  have c11b0 : ((Go.bits .and .i64 (wrap64 (bt y156 0)) 31) == 31) = true := beq_iff_eq.mpr c11
                  have c11b1 : ((Go.bits .and .i64 (wrap64 (bt y156 0)) 31) != 31) = false := bne_eq_false_iff_eq.mpr c11
                  clear c11
                  simp only [Option.some.injEq, Prod.mk.injEq] at H
                  obtain ⟨rfl, rfl, rfl, rfl⟩ := H
                  have p10 : 0 ≤ (0 : Int) := (by omega)
                  have q10 : 0 < y156.size := (by have : (0 : Int) < (y156.size : Int) := of_decide_eq_true (by first | (with_reducible assumption) | assumption); omega)
                  have hx10 : ∀ h : 0 < y156.size, ((y156[0]'h).toNat : Int) = bt y156 0 := bt_at y156 0
                  clear p10
                  have qi10 : (0 < (y156.size : Int)) = True := eq_true (of_decide_eq_true (by first | (with_reducible assumption) | assumption))
                  replace q10 := eq_true q10
                  go_wp2_with (first | ((with_reducible refine gate_dst (N := 21) rfl ?_); (try (refine gate_guard (by rfl) ?_; dsimp only)); refine str_event (y := y156) Ny156.out ?hg (N := 21) ?hd ?hr ?_; (case hd => rfl); (case hg => rfl); (case hr => first | (go_simp; done) | (go_simp; rfl))))
                  refine bodyPost_ret (results_list (rs := [.tmp 4, .tmp 5, .tmp 6, .tmp 7]) rfl (by simp) (.tmp (.tmp (.tmp (.tmp .nil))))) rfl ?_
                  exact ⟨by first | rfl | (simp; done) | (simp [*]; done), by repeat (first | exact Drawn0.refl _ | apply Drawn0.step)⟩
                · rw [if_neg c11] at H
                  have c11b0 : ((Go.bits .and .i64 (wrap64 (bt y156 0)) 31) == 31) = false := beq_eq_false_iff_ne.mpr c11
                  have c11b1 : ((Go.bits .and .i64 (wrap64 (bt y156 0)) 31) != 31) = true := bne_iff_ne.mpr c11
                  by_cases c12 : (y156.size : Int) < 2
                  · rw [if_pos c12] at H
                    have c12b0 : decide ((y156.size : Int) < 2) = true := decide_eq_true c12
                    have c12b1 : decide (y156.size < 2) = true := decide_eq_true (by omega)
                    clear c12
                    simp only [Option.some.injEq, Prod.mk.injEq] at H
                    obtain ⟨rfl, rfl, rfl, rfl⟩ := H
                    have p10 : 0 ≤ (0 : Int) := (by omega)
                    have q10 : 0 < y156.size := (by have : (0 : Int) < (y156.size : Int) := of_decide_eq_true (by first | (with_reducible assumption) | assumption); omega)
                    have hx10 : ∀ h : 0 < y156.size, ((y156[0]'h).toNat : Int) = bt y156 0 := bt_at y156 0
                    clear p10
                    have qi10 : (0 < (y156.size : Int)) = True := eq_true (of_decide_eq_true (by first | (with_reducible assumption) | assumption))
                    replace q10 := eq_true q10
                    go_wp2_with (first | ((with_reducible refine gate_dst (N := 21) rfl ?_); (try (refine gate_guard (by rfl) ?_; dsimp only)); refine str_event (y := y156) Ny156.out ?hg (N := 21) ?hd ?hr ?_; (case hd => rfl); (case hg => rfl); (case hr => first | (go_simp; done) | (go_simp; rfl))))
                    refine bodyPost_ret (results_list (rs := [.tmp 4, .tmp 5, .tmp 6, .tmp 7]) rfl (by simp) (.tmp (.tmp (.tmp (.tmp .nil))))) rfl ?_
                    exact ⟨by first | rfl | (simp; done) | (simp [*]; done), by repeat (first | exact Drawn0.refl _ | apply Drawn0.step)⟩
                  · rw [if_neg c12] at H
                    have c12b0 : decide ((y156.size : Int) < 2) = false := decide_eq_false c12
                    have c12b1 : decide (y156.size < 2) = false := decide_eq_false (by omega)
                    clear c12
                    by_cases c13 : 1 < (y156.size : Int)
                    · rw [if_pos c13] at H
                      have c13b0 : decide (1 < (y156.size : Int)) = true := decide_eq_true c13
                      have c13b1 : decide (1 < y156.size) = true := decide_eq_true (by omega)
                      clear c13
                      by_cases c15 : (wrap64 (bt y156 1)) ≥ 128
                      · rw [if_pos c15] at H
                        have c15b0 : decide (128 ≤ (wrap64 (bt y156 1))) = true := decide_eq_true c15
                        clear c15
                        have HC16 := Aside0.mk H
                        clear H
                        have p10 : 0 ≤ (0 : Int) := (by omega)
                        have q10 : 0 < y156.size := (by have : (0 : Int) < (y156.size : Int) := of_decide_eq_true (by first | (with_reducible assumption) | assumption); omega)
                        have hx10 : ∀ h : 0 < y156.size, ((y156[0]'h).toNat : Int) = bt y156 0 := bt_at y156 0
                        clear p10
                        have qi10 : (0 < (y156.size : Int)) = True := eq_true (of_decide_eq_true (by first | (with_reducible assumption) | assumption))
                        replace q10 := eq_true q10
                        have p14 : 0 ≤ (1 : Int) := (by omega)
                        have q14 : 1 < y156.size := (by have : (1 : Int) < (y156.size : Int) := of_decide_eq_true (by first | (with_reducible assumption) | assumption); omega)
                        have hx14 : ∀ h : 1 < y156.size, ((y156[1]'h).toNat : Int) = bt y156 1 := bt_at y156 1
                        clear p14
                        have qi14 : (1 < (y156.size : Int)) = True := eq_true (of_decide_eq_true (by first | (with_reducible assumption) | assumption))
                        replace q14 := eq_true q14
                        go_upto_region 15 with (first | ((with_reducible refine gate_dst (N := 21) rfl ?_); (try (refine gate_guard (by rfl) ?_; dsimp only)); refine str_event (y := y156) Ny156.out ?hg (N := 21) ?hd ?hr ?_; (case hd => rfl); (case hg => rfl); (case hr => first | (go_simp; done) | (go_simp; rfl))))
                        (try simp only [Act.put, List.setIfInBounds_toArray, List.set_cons_zero, List.set_cons_succ])
                        go_cut [45] (fun v45 wc => ∃ (kq : Nat) (x45_15 : Bool), v45 = .bool x45_15 ∧ Aside0 (ber_head.j1 kq y156 a1 (wrap64 (bt y156 0)) 2 (wrap64 ((wrap64 (bt y156 1)) - 128)) x45_15 = some (r1, r2, r3, r4)) ∧ Aside0 (kq ≤ kj2) ∧ Drawn0 w wc)
                        case first =>
                          have H := HC16.out
                          clear HC16
                          by_cases c17 : (wrap64 ((wrap64 (bt y156 1)) - 128)) < 1
                          · rw [if_pos c17] at H
                            have c17b0 : decide ((wrap64 ((wrap64 (bt y156 1)) - 128)) < 1) = true := decide_eq_true c17
                            clear c17
                            (first | rw [c17b0] | (simp only [i64_w, i32_w]; rw [c17b0]) | skip)
                            have H' := Aside0.mk H
                            clear H
                            go_wp2
                            go_meet
                            case rel => exact ⟨_, (true), (by first | rfl | (simp; done) | (simp [*]; done)), H', ⟨by have := HJ2.out; first | omega | exact Nat.le_refl _⟩, by repeat (first | exact Drawn0.refl _ | apply Drawn0.step)⟩
                          · rw [if_neg c17] at H
                            have c17b0 : decide ((wrap64 ((wrap64 (bt y156 1)) - 128)) < 1) = false := decide_eq_false c17
                            clear c17
                            (first | rw [c17b0] | (simp only [i64_w, i32_w]; rw [c17b0]) | skip)
                            have H' := Aside0.mk H
                            clear H
                            go_wp2
                            go_meet
                            case rel => exact ⟨_, (decide ((wrap64 ((wrap64 (bt y156 1)) - 128)) > 3)), (by first | rfl | (simp; done) | (simp [*]; done)), H', ⟨by have := HJ2.out; first | omega | exact Nat.le_refl _⟩, by repeat (first | exact Drawn0.refl _ | apply Drawn0.step)⟩
                        case rest =>
                          clear HC16
                          try clear c1
                          try clear p1
                          try clear q1
                          try clear hx1
                          try clear qi1
                          try clear c2
                          try clear p2
                          try clear c4
                          try clear c4b0
                          try clear c5
                          try clear c6
                          try clear c6b0
                          try clear c6b1
                          try clear p6
                          try clear c7
                          try clear c7b0
                          try clear c7b1
                          try clear c8
                          try clear c8b0
                          try clear c8b1
                          try clear c9
                          try clear c9b0
                          try clear c9b1
                          try clear p10
                          try clear q10
                          try clear hx10
                          try clear qi10
                          try clear c11
                          try clear c11b0
                          try clear c11b1
                          try clear c12
                          try clear c12b0
                          try clear c12b1
                          try clear c13
                          try clear c13b0
                          try clear c13b1
                          try clear p14
                          try clear q14
                          try clear hx14
                          try clear qi14
                          try clear c15
                          try clear c15b0
                          try clear c17
                          try clear c17b0
                          try clear p10
                          try clear p14
                          try clear p2
                          try clear q10
                          try clear q14
                          obtain ⟨kq, x45_15, rfl, HA, HJ15, ⟨mc15, rfl⟩⟩ := hcut
                          cases kq with
                          | zero => exact absurd HA.out (by simp [ber_head.j1])
                          | succ kj15 =>
                            have H := HA.out
                            clear HA
                            simp only [ber_head.j1] at H
                            by_cases c18 : x45_15 = true
                            · subst c18
                              have H1 : (some (0, 0, 0, 5)) = some (r1, r2, r3, r4) := by rw [if_pos rfl] at H; exact H
                              clear H
                              have H := H1
                              clear H1
                              simp only [Option.some.injEq, Prod.mk.injEq] at H
                              obtain ⟨rfl, rfl, rfl, rfl⟩ := H
                              go_wp2
                              refine bodyPost_ret (results_list (rs := [.tmp 4, .tmp 5, .tmp 6, .tmp 7]) rfl (by simp) (.tmp (.tmp (.tmp (.tmp .nil))))) rfl ?_
                              exact ⟨by first | rfl | (simp; done) | (simp [*]; done), by repeat (first | exact Drawn0.refl _ | apply Drawn0.step)⟩
                            · replace c18 := Bool.eq_false_iff.mpr c18
                              subst c18
                              have H1 : (if (y156.size : Int) < (wrap64 (2 + (wrap64 ((wrap64 (bt y156 1)) - 128)))) then (some (0, 0, 0, 6)) else (ber_head.l0 kj15 y156 a1 (wrap64 (bt y156 0)) 2 0 (wrap64 ((wrap64 (bt y156 1)) - 128)) (wrap64 ((wrap64 (bt y156 1)) - 128)) 0)) = some (r1, r2, r3, r4) := by rw [if_neg (show ¬ (false = true) by decide)] at H; exact H
                              clear H
                              have H := H1
                              clear H1
                              by_cases c19 : (y156.size : Int) < (wrap64 (2 + (wrap64 ((wrap64 (bt y156 1)) - 128))))
                              · rw [if_pos c19] at H
                                have c19b0 : decide ((y156.size : Int) < (wrap64 (2 + (wrap64 ((wrap64 (bt y156 1)) - 128))))) = true := decide_eq_true c19
                                clear c19
                                simp only [Option.some.injEq, Prod.mk.injEq] at H
                                obtain ⟨rfl, rfl, rfl, rfl⟩ := H
                                go_wp2
                                refine bodyPost_ret (results_list (rs := [.tmp 4, .tmp 5, .tmp 6, .tmp 7]) rfl (by simp) (.tmp (.tmp (.tmp (.tmp .nil))))) rfl ?_
                                exact ⟨by first | rfl | (simp; done) | (simp [*]; done), by repeat (first | exact Drawn0.refl _ | apply Drawn0.step)⟩
                              · rw [if_neg c19] at H
                                have c19b0 : decide ((y156.size : Int) < (wrap64 (2 + (wrap64 ((wrap64 (bt y156 1)) - 128))))) = false := decide_eq_false c19
                                clear c19
                                have H' := Aside0.mk H
                                clear H
                                go_wp2
                                go_loopg [8, 52] kj15 (fun kq v8 v52 w' => ∃ (x8_3 : Int) (x52_3 : Int), v8 = .int .i64 x8_3 ∧ v52 = .int .i64 x52_3 ∧ Aside0 (ber_head.l0 kq y156 a1 (wrap64 (bt y156 0)) 2 x8_3 (wrap64 ((wrap64 (bt y156 1)) - 128)) (wrap64 ((wrap64 (bt y156 1)) - 128)) x52_3 = some (r1, r2, r3, r4)) ∧ Aside0 (kq ≤ kj15) ∧ Drawn0 w w')
                                case atStart => exact ⟨(0), (0), (by first | rfl | (simp; done) | (simp [*]; done)), (by first | rfl | (simp; done) | (simp [*]; done)), H', ⟨Nat.le_refl _⟩, by repeat (first | exact Drawn0.refl _ | apply Drawn0.step)⟩
                                case round =>
                                  clear H'
                                  try clear c1
                                  try clear p1
                                  try clear q1
                                  try clear hx1
                                  try clear qi1
                                  try clear c2
                                  try clear p2
                                  try clear c4
                                  try clear c4b0
                                  try clear c5
                                  try clear c6
                                  try clear c6b0
                                  try clear c6b1
                                  try clear p6
                                  try clear c7
                                  try clear c7b0
                                  try clear c7b1
                                  try clear c8
                                  try clear c8b0
                                  try clear c8b1
                                  try clear c9
                                  try clear c9b0
                                  try clear c9b1
                                  try clear p10
                                  try clear q10
                                  try clear hx10
                                  try clear qi10
                                  try clear c11
                                  try clear c11b0
                                  try clear c11b1
                                  try clear c12
                                  try clear c12b0
                                  try clear c12b1
                                  try clear c13
                                  try clear c13b0
                                  try clear c13b1
                                  try clear p14
                                  try clear q14
                                  try clear hx14
                                  try clear qi14
                                  try clear c15
                                  try clear c15b0
                                  try clear c17
                                  try clear c17b0
                                  try clear c18
                                  try clear c19
                                  try clear c19b0
                                  try clear p1
                                  try clear p10
                                  try clear p14
                                  try clear p2
                                  try clear p6
                                  try clear q1
                                  try clear q10
                                  try clear q14
                                  obtain ⟨x8_3, x52_3, rfl, rfl, HA, HK3, ⟨m3, rfl⟩⟩ := hrel
                                  cases gk with
                                  | zero => exact absurd HA.out (by simp [ber_head.l0])
                                  | succ k3 =>
                                    have H := HA.out
                                    clear HA
                                    simp only [ber_head.l0] at H
                                    by_cases c20 : x52_3 < (wrap64 ((wrap64 (bt y156 1)) - 128))
                                    · rw [if_pos c20] at H
                                      have c20b0 : decide (x52_3 < (wrap64 ((wrap64 (bt y156 1)) - 128))) = true := decide_eq_true c20
                                      clear c20
                                      obtain ⟨ji21, hji21⟩ : ∃ j_ : Int, (wrap64 (2 + x52_3)) = j_ := ⟨_, rfl⟩
                                      replace H : (if 0 ≤ (ji21) then (if (ji21) < (y156.size : Int) then (ber_head.l0 k3 y156 a1 (wrap64 (bt y156 0)) 2 (Go.bits .or .i64 (wrap64 (x8_3 * 256)) (wrap64 (bt y156 (ji21)))) (wrap64 ((wrap64 (bt y156 1)) - 128)) (wrap64 ((wrap64 (bt y156 1)) - 128)) (wrap64 (x52_3 + 1))) else (none)) else (none)) = some (r1, r2, r3, r4) := by first | (rw [hji21] at H; exact H) | (simp only [hji21] at H ⊢; exact H)
                                      have hji21w : (IntKind.i64.wrap (2 + x52_3)) = ji21 := (i64_w _).trans hji21
                                      by_cases c22 : 0 ≤ (ji21)
                                      · rw [if_pos c22] at H
                                        have c22b0 : decide (0 ≤ (ji21)) = true := decide_eq_true c22
                                        clear c22
                                        by_cases c23 : (ji21) < (y156.size : Int)
                                        · rw [if_pos c23] at H
                                          have c23b0 : decide ((ji21) < (y156.size : Int)) = true := decide_eq_true c23
                                          clear c23
                                          have H' := Aside0.mk H
                                          clear H
                                          have p24 : 0 ≤ ((ji21) : Int) := of_decide_eq_true (by first | (with_reducible assumption) | assumption)
                                          have q24 : (ji21) < (y156.size : Int) := of_decide_eq_true (by first | (with_reducible assumption) | assumption)
                                          have hx24 := bt_at y156 (ji21)
                                          replace p24 := eq_true p24
                                          replace q24 := eq_true q24
                                          go_wp2
                                          go_roundg k3
                                          case measure => have := HJ2.out; have := HJ15.out; have := HK3.out; omega
                                          case rel => exact ⟨(Go.bits .or .i64 (wrap64 (x8_3 * 256)) (wrap64 (bt y156 (ji21)))), (wrap64 (x52_3 + 1)), (by first | rfl | (simp; done) | (simp only [← hji21] <;> (first | rfl | simp)) | (simp [*]; done)), (by first | rfl | (simp; done) | (simp [*]; done)), H', ⟨by have := HJ2.out; have := HJ15.out; have := HK3.out; omega⟩, by repeat (first | exact Drawn0.refl _ | apply Drawn0.step)⟩
                                        · rw [if_neg c23] at H
                                          exact absurd H (by simp)
                                      · rw [if_neg c22] at H
                                        exact absurd H (by simp)
                                    · rw [if_neg c20] at H
                                      have c20b0 : decide (x52_3 < (wrap64 ((wrap64 (bt y156 1)) - 128))) = false := decide_eq_false c20
                                      clear c20
                                      have HC25 := Aside0.mk H
                                      clear H
                                      go_upto_region 25 with (fail)
                                      go_cut [74] (fun v74 wc => ∃ (kq : Nat) (x74_24 : Bool), v74 = .bool x74_24 ∧ Aside0 (ber_head.j3 kq y156 a1 (wrap64 (bt y156 0)) 2 x8_3 (wrap64 ((wrap64 (bt y156 1)) - 128)) x74_24 = some (r1, r2, r3, r4)) ∧ Aside0 (kq ≤ k3) ∧ Drawn0 w wc)
                                      case first =>
                                        have H := HC25.out
                                        clear HC25
                                        by_cases c26 : 2 < (y156.size : Int)
                                        · rw [if_pos c26] at H
                                          have c26b0 : decide (2 < (y156.size : Int)) = true := decide_eq_true c26
                                          have c26b1 : decide (2 < y156.size) = true := decide_eq_true (by omega)
                                          clear c26
                                          (first | rw [c26b0] | (simp only [i64_w, i32_w]; rw [c26b0]) | skip)
                                          by_cases c28 : (bt y156 2) = 0
                                          · rw [if_pos c28] at H
                                            have c28b0 : ((bt y156 2) == 0) = true := beq_iff_eq.mpr c28
                                            have c28b1 : ((bt y156 2) != 0) = false := bne_eq_false_iff_eq.mpr c28
                                            clear c28
                                            have H' := Aside0.mk H
                                            clear H
                                            have p27 : 0 ≤ (2 : Int) := (by omega)
                                            have q27 : 2 < y156.size := (by have : (2 : Int) < (y156.size : Int) := of_decide_eq_true (by first | (with_reducible assumption) | assumption); omega)
                                            have hx27 : ∀ h : 2 < y156.size, ((y156[2]'h).toNat : Int) = bt y156 2 := bt_at y156 2
                                            clear p27
                                            have qi27 : (2 < (y156.size : Int)) = True := eq_true (of_decide_eq_true (by first | (with_reducible assumption) | assumption))
                                            replace q27 := eq_true q27
                                            go_wp2
                                            go_meet
                                            case rel => exact ⟨_, (true), (by first | rfl | (simp; done) | (simp [*]; done)), H', ⟨by have := HJ2.out; have := HJ15.out; have := HK3.out; first | omega | exact Nat.le_refl _⟩, by repeat (first | exact Drawn0.refl _ | apply Drawn0.step)⟩
                                          · rw [if_neg c28] at H
                                            have c28b0 : ((bt y156 2) == 0) = false := beq_eq_false_iff_ne.mpr c28
                                            have c28b1 : ((bt y156 2) != 0) = true := bne_iff_ne.mpr c28
                                            by_cases c29 : x8_3 < 128
                                            · rw [if_pos c29] at H
                                              have c29b0 : decide (x8_3 < 128) = true := decide_eq_true c29
                                              clear c29
                                              have H' := Aside0.mk H
                                              clear H
                                              have p27 : 0 ≤ (2 : Int) := (by omega)
                                              have q27 : 2 < y156.size := (by have : (2 : Int) < (y156.size : Int) := of_decide_eq_true (by first | (with_reducible assumption) | assumption); omega)
                                              have hx27 : ∀ h : 2 < y156.size, ((y156[2]'h).toNat : Int) = bt y156 2 := bt_at y156 2
                                              clear p27
                                              have qi27 : (2 < (y156.size : Int)) = True := eq_true (of_decide_eq_true (by first | (with_reducible assumption) | assumption))
                                              replace q27 := eq_true q27
                                              go_wp2
                                              go_meet
                                              case rel => exact ⟨_, (true), (by first | rfl | (simp; done) | (simp [*]; done)), H', ⟨by have := HJ2.out; have := HJ15.out; have := HK3.out; first | omega | exact Nat.le_refl _⟩, by repeat (first | exact Drawn0.refl _ | apply Drawn0.step)⟩
                                            · rw [if_neg c29] at H
                                              have c29b0 : decide (x8_3 < 128) = false := decide_eq_false c29
                                              clear c29
                                              have H' := Aside0.mk H
                                              clear H
                                              have p27 : 0 ≤ (2 : Int) := (by omega)
                                              have q27 : 2 < y156.size := (by have : (2 : Int) < (y156.size : Int) := of_decide_eq_true (by first | (with_reducible assumption) | assumption); omega)
                                              have hx27 : ∀ h : 2 < y156.size, ((y156[2]'h).toNat : Int) = bt y156 2 := bt_at y156 2
                                              clear p27
                                              have qi27 : (2 < (y156.size : Int)) = True := eq_true (of_decide_eq_true (by first | (with_reducible assumption) | assumption))
                                              replace q27 := eq_true q27
                                              go_wp2
                                              go_meet
                                              case rel => exact ⟨_, (decide (x8_3 > 1048576)), (by first | rfl | (simp; done) | (simp [*]; done)), H', ⟨by have := HJ2.out; have := HJ15.out; have := HK3.out; first | omega | exact Nat.le_refl _⟩, by repeat (first | exact Drawn0.refl _ | apply Drawn0.step)⟩
                                        · rw [if_neg c26] at H
                                          exact absurd H (by simp)
                                      case rest =>
                                        clear HC25
                                        try clear c1
                                        try clear p1
                                        try clear q1
                                        try clear hx1
                                        try clear qi1
                                        try clear c2
                                        try clear p2
                                        try clear q2
                                        try clear hx2
                                        try clear qi2
                                        try clear c4
                                        try clear c4b0
                                        try clear c5
                                        try clear c6
                                        try clear c6b0
                                        try clear c6b1
                                        try clear p6
                                        try clear c7
                                        try clear c7b0
                                        try clear c7b1
                                        try clear c8
                                        try clear c8b0
                                        try clear c8b1
                                        try clear c9
                                        try clear c9b0
                                        try clear c9b1
                                        try clear p10
                                        try clear q10
                                        try clear hx10
                                        try clear qi10
                                        try clear c11
                                        try clear c11b0
                                        try clear c11b1
                                        try clear c12
                                        try clear c12b0
                                        try clear c12b1
                                        try clear c13
                                        try clear c13b0
                                        try clear c13b1
                                        try clear p14
                                        try clear q14
                                        try clear hx14
                                        try clear qi14
                                        try clear c15
                                        try clear c15b0
                                        try clear c17
                                        try clear c17b0
                                        try clear c18
                                        try clear c19
                                        try clear c19b0
                                        try clear c20
                                        try clear c20b0
                                        try clear c22
                                        try clear c22b0
                                        try clear c23
                                        try clear c23b0
                                        try clear p24
                                        try clear q24
                                        try clear hx24
                                        try clear c26
                                        try clear c26b0
                                        try clear c26b1
                                        try clear p27
                                        try clear q27
                                        try clear hx27
                                        try clear qi27
                                        try clear c28
                                        try clear c28b0
                                        try clear c28b1
                                        try clear c29
                                        try clear c29b0
                                        try clear p1
                                        try clear p10
                                        try clear p14
                                        try clear p2
                                        try clear p24
                                        try clear p27
                                        try clear p6
                                        try clear q1
                                        try clear q10
                                        try clear q14
                                        try clear q24
                                        try clear q27
                                        obtain ⟨kq, x74_24, rfl, HA, HJ24, ⟨mc24, rfl⟩⟩ := hcut
                                        cases kq with
                                        | zero => exact absurd HA.out (by simp [ber_head.j3])
                                        | succ kj24 =>
                                          have H := HA.out
                                          clear HA
                                          simp only [ber_head.j3] at H
                                          by_cases c30 : x74_24 = true
                                          · subst c30
                                            have H1 : (some (0, 0, 0, 5)) = some (r1, r2, r3, r4) := by rw [if_pos rfl] at H; exact H
                                            clear H
                                            have H := H1
                                            clear H1
                                            simp only [Option.some.injEq, Prod.mk.injEq] at H
                                            obtain ⟨rfl, rfl, rfl, rfl⟩ := H
                                            go_wp2
                                            refine bodyPost_ret (results_list (rs := [.tmp 4, .tmp 5, .tmp 6, .tmp 7]) rfl (by simp) (.tmp (.tmp (.tmp (.tmp .nil))))) rfl ?_
                                            exact ⟨by first | rfl | (simp; done) | (simp [*]; done), by repeat (first | exact Drawn0.refl _ | apply Drawn0.step)⟩
                                          · replace c30 := Bool.eq_false_iff.mpr c30
                                            subst c30
                                            have H1 : (if (wrap64 ((y156.size : Int) - (wrap64 (2 + (wrap64 ((wrap64 (bt y156 1)) - 128)))))) < x8_3 then (some (0, 0, 0, 6)) else (some ((wrap64 (bt y156 0)), wrap64 (a1 + (wrap64 (2 + (wrap64 ((wrap64 (bt y156 1)) - 128))))), wrap64 ((wrap64 (a1 + (wrap64 (2 + (wrap64 ((wrap64 (bt y156 1)) - 128)))))) + x8_3), 0))) = some (r1, r2, r3, r4) := by rw [if_neg (show ¬ (false = true) by decide)] at H; exact H
                                            clear H
                                            have H := H1
                                            clear H1
                                            by_cases c31 : (wrap64 ((y156.size : Int) - (wrap64 (2 + (wrap64 ((wrap64 (bt y156 1)) - 128)))))) < x8_3
                                            · rw [if_pos c31] at H
                                              have c31b0 : decide ((wrap64 ((y156.size : Int) - (wrap64 (2 + (wrap64 ((wrap64 (bt y156 1)) - 128)))))) < x8_3) = true := decide_eq_true c31
                                              clear c31
                                              simp only [Option.some.injEq, Prod.mk.injEq] at H
                                              obtain ⟨rfl, rfl, rfl, rfl⟩ := H
                                              go_wp2
                                              refine bodyPost_ret (results_list (rs := [.tmp 4, .tmp 5, .tmp 6, .tmp 7]) rfl (by simp) (.tmp (.tmp (.tmp (.tmp .nil))))) rfl ?_
                                              exact ⟨by first | rfl | (simp; done) | (simp [*]; done), by repeat (first | exact Drawn0.refl _ | apply Drawn0.step)⟩
                                            · rw [if_neg c31] at H
                                              have c31b0 : decide ((wrap64 ((y156.size : Int) - (wrap64 (2 + (wrap64 ((wrap64 (bt y156 1)) - 128)))))) < x8_3) = false := decide_eq_false c31
                                              clear c31
                                              simp only [Option.some.injEq, Prod.mk.injEq] at H
                                              obtain ⟨rfl, rfl, rfl, rfl⟩ := H
                                              go_wp2
                                              refine bodyPost_ret (results_list (rs := [.tmp 4, .tmp 5, .tmp 6, .tmp 7]) rfl (by simp) (.tmp (.tmp (.tmp (.tmp .nil))))) rfl ?_
                                              exact ⟨by first | rfl | (simp; done) | (simp [*]; done), by repeat (first | exact Drawn0.refl _ | apply Drawn0.step)⟩
                      · rw [if_neg c15] at H
                        have c15b0 : decide (128 ≤ (wrap64 (bt y156 1))) = false := decide_eq_false c15
                        clear c15
                        by_cases c32 : (wrap64 ((y156.size : Int) - 2)) < (wrap64 (bt y156 1))
                        · rw [if_pos c32] at H
                          have c32b0 : decide ((wrap64 ((y156.size : Int) - 2)) < (wrap64 (bt y156 1))) = true := decide_eq_true c32
                          clear c32
                          simp only [Option.some.injEq, Prod.mk.injEq] at H
                          obtain ⟨rfl, rfl, rfl, rfl⟩ := H
                          have p10 : 0 ≤ (0 : Int) := (by omega)
                          have q10 : 0 < y156.size := (by have : (0 : Int) < (y156.size : Int) := of_decide_eq_true (by first | (with_reducible assumption) | assumption); omega)
                          have hx10 : ∀ h : 0 < y156.size, ((y156[0]'h).toNat : Int) = bt y156 0 := bt_at y156 0
                          clear p10
                          have qi10 : (0 < (y156.size : Int)) = True := eq_true (of_decide_eq_true (by first | (with_reducible assumption) | assumption))
                          replace q10 := eq_true q10
                          have p14 : 0 ≤ (1 : Int) := (by omega)
                          have q14 : 1 < y156.size := (by have : (1 : Int) < (y156.size : Int) := of_decide_eq_true (by first | (with_reducible assumption) | assumption); omega)
                          have hx14 : ∀ h : 1 < y156.size, ((y156[1]'h).toNat : Int) = bt y156 1 := bt_at y156 1
                          clear p14
                          have qi14 : (1 < (y156.size : Int)) = True := eq_true (of_decide_eq_true (by first | (with_reducible assumption) | assumption))
                          replace q14 := eq_true q14
                          go_wp2_with (first | ((with_reducible refine gate_dst (N := 21) rfl ?_); (try (refine gate_guard (by rfl) ?_; dsimp only)); refine str_event (y := y156) Ny156.out ?hg (N := 21) ?hd ?hr ?_; (case hd => rfl); (case hg => rfl); (case hr => first | (go_simp; done) | (go_simp; rfl))))
                          refine bodyPost_ret (results_list (rs := [.tmp 4, .tmp 5, .tmp 6, .tmp 7]) rfl (by simp) (.tmp (.tmp (.tmp (.tmp .nil))))) rfl ?_
                          exact ⟨by first | rfl | (simp; done) | (simp [*]; done), by repeat (first | exact Drawn0.refl _ | apply Drawn0.step)⟩
                        · rw [if_neg c32] at H
                          have c32b0 : decide ((wrap64 ((y156.size : Int) - 2)) < (wrap64 (bt y156 1))) = false := decide_eq_false c32
                          clear c32
                          simp only [Option.some.injEq, Prod.mk.injEq] at H
                          obtain ⟨rfl, rfl, rfl, rfl⟩ := H
                          have p10 : 0 ≤ (0 : Int) := (by omega)
                          have q10 : 0 < y156.size := (by have : (0 : Int) < (y156.size : Int) := of_decide_eq_true (by first | (with_reducible assumption) | assumption); omega)
                          have hx10 : ∀ h : 0 < y156.size, ((y156[0]'h).toNat : Int) = bt y156 0 := bt_at y156 0
                          clear p10
                          have qi10 : (0 < (y156.size : Int)) = True := eq_true (of_decide_eq_true (by first | (with_reducible assumption) | assumption))
                          replace q10 := eq_true q10
                          have p14 : 0 ≤ (1 : Int) := (by omega)
                          have q14 : 1 < y156.size := (by have : (1 : Int) < (y156.size : Int) := of_decide_eq_true (by first | (with_reducible assumption) | assumption); omega)
                          have hx14 : ∀ h : 1 < y156.size, ((y156[1]'h).toNat : Int) = bt y156 1 := bt_at y156 1
                          clear p14
                          have qi14 : (1 < (y156.size : Int)) = True := eq_true (of_decide_eq_true (by first | (with_reducible assumption) | assumption))
                          replace q14 := eq_true q14
                          go_wp2_with (first | ((with_reducible refine gate_dst (N := 21) rfl ?_); (try (refine gate_guard (by rfl) ?_; dsimp only)); refine str_event (y := y156) Ny156.out ?hg (N := 21) ?hd ?hr ?_; (case hd => rfl); (case hg => rfl); (case hr => first | (go_simp; done) | (go_simp; rfl))))
                          refine bodyPost_ret (results_list (rs := [.tmp 4, .tmp 5, .tmp 6, .tmp 7]) rfl (by simp) (.tmp (.tmp (.tmp (.tmp .nil))))) rfl ?_
                          exact ⟨by first | rfl | (simp; done) | (simp [*]; done), by repeat (first | exact Drawn0.refl _ | apply Drawn0.step)⟩
                    · rw [if_neg c13] at H
                      exact absurd H (by simp)
              · rw [if_neg c9] at H
                exact absurd H (by simp)
          · rw [if_neg c7] at H
            exact absurd H (by simp)
        · rw [if_neg c6] at H
          exact absurd H (by simp)

end Go.Proofs.Ytjlcmahknldjpaa.XBer
