/- BerSide: tlvs side by side are read one behind the other. Conditions: those of each theorem. -/
import Derived.Test.YtjlcmahknldjpaaBerJ
import Derived.Test.YtjlcmahknldjpaaXBerx12
namespace Go.Proofs.Ytjlcmahknldjpaa.Pure
open Go.RowKit Go.Proofs.Ytjlcmahknldjpaa.XBer Go.Proofs.YtjlcmahknldjpaaV.PrintWords Go.Proofs.YtjlcmahknldjpaaV.PrintMore
set_option linter.unusedVariables false

/-- ts are what is made of the first rows -/
def Made (x0 : List (List Int)) (s : ByteArray) (ts : List S25) : Prop :=
  ∀ j (h : j < ts.length), Ev (fun k => brooklaw1_Make.f k (rd_L4 x0 (j : Int)) s) (ts[j].f0, ts[j].f1, ts[j].f2) ∧ 0 ≤ lenS 12 ts[j]
theorem side_len (ts : List S25) : (∀ t ∈ ts, 0 ≤ lenS 12 t) → (encs ts).length ≤ ts.length * 1048581 := by
  induction ts with
  | nil => intro _; simp [encs]
  | cons t r ih =>
    intro h
    obtain ⟨sub, hf⟩ := fit_any (h t (by simp))
    have h1 := enc_len t
    have h2 := whole_bd (n := (cont t).length) (by omega)
    have h3 := hf.len
    have := ih (fun y hy => h y (List.mem_cons_of_mem _ hy))
    simp only [encs, List.length_append, List.length_cons]
    omega
theorem encs_bd (ts : List S25) : (∀ t ∈ ts, 0 ≤ lenS 12 t) → ∀ x ∈ encs ts, 0 ≤ x ∧ x < 256 := by
  induction ts with
  | nil => intro _ x hx; simp [encs] at hx
  | cons t r ih =>
    intro h x hx
    simp only [encs, List.mem_append] at hx
    rcases hx with hx | hx
    · exact enc_bd (h t (by simp)) x hx
    · exact ih (fun y hy => h y (List.mem_cons_of_mem _ hy)) x hx
theorem aw2 : Ev (fun k => (brooklaw1_awake.f k).bind fun t => some t) true := Ev.bind awake_ev (ev_some rfl)

theorem side_l1 (x0 : List (List Int)) (s x5 : ByteArray) (ts : List S25) (hl : ts.length = x0.length) (hn : x0.length ≤ 10) (h5 : bytesOf x5 = encs ts) (hm : Made x0 s ts) :
    ∀ (m j : Nat), ts.length - j ≤ m → j ≤ ts.length → Ev (fun k => brooklaw1_BerSide.l1 k x0 s x5 ((encs (ts.take j)).length : Int) (j : Int)) true := by
  have hall : ∀ t ∈ ts, 0 ≤ lenS 12 t := by
    intro t ht
    obtain ⟨i, hi, rfl⟩ := List.getElem_of_mem ht
    exact (hm i hi).2
  have hsz := side_len ts hall
  have hx5 : x5.size = (encs ts).length := by rw [← by_len, h5]
  have hsp : ∀ j, encs ts = encs (ts.take j) ++ encs (ts.drop j) := fun j => by rw [← encs_append, List.take_append_drop]
  have hsl : ∀ j, (encs ts).length = (encs (ts.take j)).length + (encs (ts.drop j)).length := fun j => by rw [← List.length_append, ← hsp]
  have hend : Ev (fun k => brooklaw1_BerSide.l1 k x0 s x5 ((encs ts).length : Int) (ts.length : Int)) true := by
    refine ev_succ ?_
    simp only [brooklaw1_BerSide.l1]
    refine ev_ite (fun c => absurd c (by omega)) (fun _ => ?_)
    have g1 := Get_in (s := x5) (i := ((encs ts).length : Int)) (by omega) (by omega) (by omega)
    rw [h5, show ((encs ts).length : Int).toNat = (encs ts).length from rfl, List.drop_length] at g1
    refine Ev.bind g1 ?_
    rw [w64 (x := ((encs ts).length : Int) + 1) (by omega) (by omega)]
    refine Ev.bind (Get_out (by omega) (.inr (by omega))) ?_
    refine Ev.bind (Get_out (by omega) (.inl (by omega))) ?_
    refine ev_ite (fun _ => ?_) (fun c => absurd (show ((encs ts).length : Int) = (x5.size : Int) by omega) c)
    unfold brooklaw1_Num.f
    refine Ev.bind (ev_some rfl) ?_
    refine ev_ite (fun _ => ?_) (fun c => absurd rfl c)
    refine Ev.bind (ev_some rfl) ?_
    refine ev_ite (fun _ => ?_) (fun c => absurd rfl c)
    refine Ev.bind (ev_some rfl) ?_
    exact ev_ite (fun _ => aw2) (fun c => absurd rfl c)
  intro m
  induction m with
  | zero =>
    intro j hj hj2
    obtain rfl : j = ts.length := by omega
    rw [List.take_length]
    exact hend
  | succ m ihm =>
    intro j hj hj2
    by_cases hlt : j < ts.length
    · have h1 := hsl j
      have h2 : ts.drop j = ts[j] :: ts.drop (j + 1) := List.drop_eq_getElem_cons hlt
      have h3 : (encs (ts.take (j + 1))).length = (encs (ts.take j)).length + (enc ts[j]).length := by
        rw [List.take_add_one, List.getElem?_eq_getElem hlt, encs_append]
        simp [encs]
      have hpos := enc_pos ts[j]
      have hwt := wt_enc ts[j]
      have h4 : (enc ts[j]).length ≤ (encs (ts.drop j)).length := by rw [h2]; simp [encs]
      obtain ⟨hmk, hok⟩ := hm j hlt
      have hdr : (bytesOf x5).drop ((encs (ts.take j)).length : Int).toNat = enc ts[j] ++ encs (ts.drop (j + 1)) := by
        rw [h5, hsp j, show ((encs (ts.take j)).length : Int).toNat = (encs (ts.take j)).length from rfl, List.drop_left, h2]
        rfl
      have g1 := Get_in (s := x5) (i := ((encs (ts.take j)).length : Int)) (by omega) (by omega) (by omega)
      rw [hdr, parse_enc 12 _ hok] at g1
      refine ev_succ ?_
      simp only [brooklaw1_BerSide.l1]
      refine ev_ite (fun _ => ?_) (fun c => absurd (show (j : Int) < (x0.length : Int) by omega) c)
      refine Ev.bind g1 ?_
      unfold brooklaw1_Num.f
      refine Ev.bind (ev_some rfl) ?_
      unfold res
      simp only [if_true]
      refine ev_ite (fun c => absurd c (by omega)) (fun _ => ?_)
      refine ev_ite (fun _ => ?_) (fun c => absurd (show (0 : Int) ≤ j by omega) c)
      refine Ev.bind hmk ?_
      refine Ev.bind (same_self ts[j] (by omega)) ?_
      refine ev_ite (fun _ => ?_) (fun c => absurd rfl c)
      rw [w64 (x := (j : Int) + 1) (by omega) (by omega)]
      have := ihm (j + 1) (by omega) (by omega)
      rw [h3] at this
      exact this
    · obtain rfl : j = ts.length := by omega
      rw [List.take_length]
      exact hend

theorem side_l0 (x0 : List (List Int)) (s : ByteArray) (hn : x0.length ≤ 10) (hb : ∀ r ∈ x0, ∀ x ∈ r, 0 ≤ x ∧ x < 256) :
    ∀ (m j : Nat) (x5 : ByteArray) (ts : List S25), x0.length - j ≤ m → j ≤ x0.length → ts.length = j → bytesOf x5 = encs ts → Made x0 s ts → Ev (fun k => brooklaw1_BerSide.l0 k x0 s x5 (j : Int)) true := by
  intro m
  induction m with
  | zero =>
    intro j x5 ts hj hj2 hl h5 hm
    refine ev_succ ?_
    simp only [brooklaw1_BerSide.l0]
    refine ev_ite (fun c => absurd c (by omega)) (fun _ => ?_)
    exact side_l1 x0 s x5 ts (by omega) hn h5 hm ts.length 0 (by omega) (by omega)
  | succ m ihm =>
    intro j x5 ts hj hj2 hl h5 hm
    by_cases hlt : j < x0.length
    · refine ev_succ ?_
      simp only [brooklaw1_BerSide.l0]
      refine ev_ite (fun _ => ?_) (fun c => absurd (show (j : Int) < (x0.length : Int) by omega) c)
      refine ev_ite (fun _ => ?_) (fun c => absurd (show (0 : Int) ≤ j by omega) c)
      refine ev_ite (fun _ => aw2) (fun c12 => ?_)
      have hr : rd_L4 x0 (j : Int) ∈ x0 := by
        have : rd_L4 x0 (j : Int) = x0[j] := by
          unfold rd_L4
          rw [List.getD_eq_getElem?_getD, show ((j : Int)).toNat = j from rfl, List.getElem?_eq_getElem hlt]; rfl
        rw [this]; exact List.getElem_mem _
      obtain ⟨t, ht, hok⟩ := Make_eq (rd_L4 x0 (j : Int)) s (by omega) (hb _ hr)
      refine Ev.bind ht ?_
      obtain ⟨sub, hf⟩ := fit_any hok
      have hwt := wt_fit hf
      have hP := Put_eq t (by omega)
      rw [if_pos hok] at hP
      refine Ev.bind hP ?_
      have hall : ∀ y ∈ ts, 0 ≤ lenS 12 y := by
        intro y hy
        obtain ⟨i, hi, rfl⟩ := List.getElem_of_mem hy
        exact (hm i hi).2
      have hsz := side_len ts hall
      have hx5 : x5.size = (encs ts).length := by rw [← by_len, h5]
      have hby : bytesOf (strOfNums (enc t)) = enc t := by_strOf (enc_bd hok)
      have hsz2 : (strOfNums (enc t)).size = (enc t).length := by rw [← by_len, hby]
      have h1 := enc_len t
      have h2 := whole_bd (n := (cont t).length) (by omega)
      have h3 := hf.len
      refine ev_ite (fun _ => ?_) (fun c => absurd (show x5.size + (strOfNums (enc t)).size ≤ 9223372036854775807 by omega) c)
      rw [w64 (x := (j : Int) + 1) (by omega) (by omega)]
      refine ihm (j + 1) (x5 ++ strOfNums (enc t)) (ts ++ [t]) (by omega) (by omega) (by simp [hl]) ?_ ?_
      · rw [by_append, h5, hby, encs_append]
        simp [encs]
      · intro i hi
        by_cases hit : i < ts.length
        · rw [List.getElem_append_left hit]
          exact hm i hit
        · rw [List.length_append, List.length_singleton] at hi
          obtain rfl : i = ts.length := by omega
          rw [List.getElem_append_right (by omega)]
          simp only [Nat.sub_self, List.getElem_cons_zero]
          rw [hl]
          exact ⟨ht, hok⟩
    · refine ev_succ ?_
      simp only [brooklaw1_BerSide.l0]
      refine ev_ite (fun c => absurd c (by omega)) (fun _ => ?_)
      exact side_l1 x0 s x5 ts (by omega) hn h5 hm ts.length 0 (by omega) (by omega)

theorem BerSide (l0 : List (List Int)) (a1 : ByteArray) (w0 : ∀ r ∈ l0, ∀ x ∈ r, (Lit.int .u8 x).wf = true) : ∃ k, brooklaw1_BerSide.f k l0 a1 = some true := by
  have hb : ∀ r ∈ l0, ∀ x ∈ r, 0 ≤ x ∧ x < 256 := by
    intro r hr x hx
    have := w0 r hr x hx
    simp [Lit.wf, IntKind.min, IntKind.max, IntKind.signed, IntKind.bits] at this
    omega
  refine ev_ex (g := fun k => brooklaw1_BerSide.f k l0 a1) ?_
  have jt : ∀ x4, x4 = true → Ev (fun k => brooklaw1_BerSide.j0 k l0 a1 x4) true := by
    intro x4 hx
    refine ev_succ ?_
    simp only [brooklaw1_BerSide.j0]
    exact ev_ite (fun _ => aw2) (fun c => absurd hx c)
  unfold brooklaw1_BerSide.f
  refine ev_ite (fun _ => jt _ rfl) (fun c0 => ?_)
  by_cases c1 : (a1.size : Int) > 100
  · exact jt _ (decide_eq_true c1)
  · refine ev_succ ?_
    simp only [brooklaw1_BerSide.j0]
    refine ev_ite (fun c => absurd (of_decide_eq_true c) c1) (fun _ => ?_)
    exact side_l0 l0 a1 (by omega) hb l0.length 0 ⟨#[]⟩ [] (by omega) (by omega) rfl rfl (fun j h => absurd h (by simp))
end Go.Proofs.Ytjlcmahknldjpaa.Pure
