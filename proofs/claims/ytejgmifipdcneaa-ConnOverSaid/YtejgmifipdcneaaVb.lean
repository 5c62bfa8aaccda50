/- Both packages feed a line alike. Conditions: those of each theorem. -/
import Derived.Test.YtejgmifipdcneaaVa
namespace Go.Proofs.Ytejgmifipdcneaa.B
open Go Go.Proofs Go.Proofs.Ytejgmifipdcneaa.I
set_option linter.unusedVariables false
set_option linter.unusedSimpArgs false
set_option maxRecDepth 100000
def dGs (l : List Mg) : List (List D) := l.map dMg
theorem dGs_len (l : List Mg) : (dGs l).length = l.length := by simp [dGs]
theorem dGs_sz (l : List Mg) : ∀ y ∈ dGs l, y.length = 23 := by
  intro y hy
  obtain ⟨m, _, rfl⟩ := List.mem_map.1 hy
  rfl
theorem dGs_app (a b : List Mg) : dGs (a ++ b) = dGs a ++ dGs b := by simp [dGs]
theorem app_msg (acc : List Mg) (m : Mg) (h : acc.length ≤ 1073741824) : app 23 344 (dGs acc) [dMg m] = some (dGs (acc ++ [m])) := by
  rw [app_eq (by rw [dGs_len]; simp only [List.length_cons, List.length_nil]; omega) (by intro y hy; rw [List.mem_singleton.1 hy]; rfl), dGs_app]
  rfl
theorem ix_msg (l : List Mg) (j : Nat) (h : j < l.length) : ix 23 (dGs l) (j : Int) = some (dMg l[j]) := ix_map dMg (fun _ => rfl) l j h
theorem dec_msg (m : Mg) : decs [.int .i64, .int .i64, .str, .str, .int .i64, .int .i64, .int .i64, .str, .str, .list, .list, .list, .list, .str, .list, .str, .bool, .str, .int .i64, .int .i64, .int .i64, .str, .list] (sub (dMg m) 0 23) = some (tupM m) := rfl
section
variable {call : Oracle} {lp : Loops} (hW : Fix Try.prog hs call lp)
include hW
theorem GetM_of (s : List UInt8) (hs : s.length ≤ 2000000) : msg_Get.f call s = some (match toldOf s with
    | some m => ((tupM m, true, ()), ())
    | none => ((tupM (zM 0 0), false, ()), ())) := by
  by_cases ht : ∃ m, Told s m
  · obtain ⟨m, hm⟩ := ht
    rw [GetM_yes hW hm, toldOf_yes hm]
  · have ht : ∀ m, ¬ Told s m := fun m h => ht ⟨m, h⟩
    rw [GetM_no hW hs ht, toldOf_no ht]
theorem feed_loop (w : List UInt8) (y : List UInt8 × List UInt8 × Bool × Unit) : ∀ (k : Nat) (s : List UInt8) (acc : List Mg), s.length ≤ k → acc.length + s.length ≤ 1073741824 → conn_Feed.l6 call lp s (w, [], false, ()) y (dGs acc) = some (((w, (fed s).2.1, decide ((fed s).2.2 = 1), ()), dGs (acc ++ (fed s).1), ()), ()) := by
  intro k
  induction k with
  | zero =>
    intro s acc h hb
    have : s = [] := List.length_eq_zero_iff.1 (by omega)
    subst this
    rw [conn_Feed.l6.eq hW]
    have hg := Get_in hW [] (i := 0) (by simp) (by omega) (by simp)
    rw [Int.toNat_zero, List.drop_zero] at hg
    rw [hg, show fed [] = ([], [], 0) by rw [fed_eq]; simp [pE_nil]]
    have e : res 0 (parse 12 (bytesOf [])) = (((0, [], [], ()), 0, 6, ()), ()) := rfl
    rw [e, List.append_nil]
    rfl
  | succ k ih =>
    intro s acc h hb
    rw [conn_Feed.l6.eq hW]
    have hg := Get_in hW s (i := 0) (by omega) (by omega) (by omega)
    rw [Int.toNat_zero, List.drop_zero] at hg
    rw [hg, fed_eq]
    by_cases c6 : pE s = 6
    · have e : res 0 (parse 12 (bytesOf s)) = (((0, [], [], ()), 0, 6, ()), ()) := by
        unfold res; rw [if_neg (by unfold pE at c6; omega), show (parse 12 (bytesOf s)).1 = 6 from c6]
      rw [e, if_pos c6, List.append_nil]
      rfl
    rw [if_neg c6]
    by_cases c0 : pE s = 0
    · obtain ⟨h1, h2, h3, h4⟩ := parse_ok c0
      have e : res 0 (parse 12 (bytesOf s)) = ((tup (parse 12 (bytesOf s)).2.1, (pLn s : Int), 0, ()), ()) := by
        unfold res; rw [if_pos (by exact c0), h3, Int.zero_add]
      rw [e, if_pos c0]
      have hl : (s.drop (pLn s)).length = s.length - pLn s := List.length_drop
      have hlt : (s.take (pLn s)).length ≤ pLn s := by rw [List.length_take]; omega
      simp only [Option.bind_some]
      rw [subs_eq s (l := 0) (h := (pLn s : Int)) (by omega) (by omega) (by omega)]
      rw [Int.toNat_zero, List.drop_zero, show ((pLn s : Int) - 0).toNat = pLn s by omega]
      simp only [Option.bind_some, decide_true, decide_false, Bool.not_true, cond_false, Int.reduceEq]
      rw [GetM_of hW (s.take (pLn s)) (by omega)]
      cases ht : toldOf (s.take (pLn s)) with
      | none => simp
      | some m =>
        simp only [Option.bind_some, Bool.not_true, cond_false]
        by_cases c9 : 9 < m.k
        · simp [c9]
        · simp only [c9, decide_false, cond_false, if_false]
          have ha := app_msg acc m (by omega)
          unfold dMg at ha
          rw [ha]
          simp only [Option.bind_some]
          by_cases c2 : m.k = 2
          · simp [c2]
          · simp only [c2, decide_false, cond_false, if_false]
            rw [subs_all s (l := (pLn s : Int)) (by omega) (by omega)]
            rw [show ((pLn s : Int)).toNat = pLn s by omega]
            simp only [Option.bind_some]
            rw [ih (s.drop (pLn s)) (acc ++ [m]) (by omega) (by simp only [List.length_append, List.length_cons, List.length_nil]; omega)]
            simp
    · have e : res 0 (parse 12 (bytesOf s)) = (((0, [], [], ()), 0, pE s, ()), ()) := by
        unfold res; rw [if_neg (by exact c0)]; rfl
      rw [e, if_neg c0, List.append_nil]
      simp only [Option.bind_some, decide_eq_false c6, decide_eq_false c0, Bool.not_false, cond_true, cond_false]
      rfl
/-- The package's feeding. -/
theorem Feed_eq (w r : List UInt8) (s : List UInt8) (h : r.length + s.length ≤ 1073741824) : conn_Feed.f call (w, r, false, ()) s = some (((w, (fed (r ++ s)).2.1, decide ((fed (r ++ s)).2.2 = 1), ()), dGs (fed (r ++ s)).1, ()), ()) := by
  rw [conn_Feed.eq hW]
  simp only [cond_false]
  rw [cat_eq (by omega)]
  simp only [Option.bind_some]
  have := feed_loop hW w ([], [], false, ()) (r ++ s).length (r ++ s) [] (Nat.le_refl _) (by simp; omega)
  rw [show dGs [] = [] from rfl] at this
  rw [this, List.nil_append]
theorem Feed_over (w r : List UInt8) (s : List UInt8) : conn_Feed.f call (w, r, true, ()) s = some (((w, r, true, ()), [], ()), ()) := by
  rw [conn_Feed.eq hW]; rfl
end
end Go.Proofs.Ytejgmifipdcneaa.B
