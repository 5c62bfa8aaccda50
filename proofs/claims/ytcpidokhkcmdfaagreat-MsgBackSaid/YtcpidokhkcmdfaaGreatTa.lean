/- Filters, entries, changes and messages as data; loops over lists. Conditions: those of each theorem. -/
import Derived.Test.YtcpidokhkcmdfaaGreatSh
namespace Go.Proofs.YtcpidokhkcmdfaaGreat.B
open Go Go.Proofs Go.Proofs.YtcpidokhkcmdfaaGreat.I
set_option linter.unusedVariables false
set_option linter.unusedSimpArgs false
/-! truths -/
theorem andS {a b : Bool} : (bif a then some b else some false) = some (a && b) := by cases a <;> rfl
theorem orS {a b : Bool} : (bif a then some true else some b) = some (a || b) := by cases a <;> rfl
theorem bind_id {α : Type} {x : Option α} : (x.bind fun z => some z) = x := by cases x <;> rfl
theorem bif_bind' {α β : Type} {a : Bool} {x y : Option α} {f : α → Option β} : (bif a then x else y).bind f = (bif a then x.bind f else y.bind f) := by cases a <;> rfl
/-! loops -/
def allI {α : Type} (p : Nat → α → Bool) : Nat → List α → Bool
  | _, [] => true
  | j, x :: r => p j x && allI p (j + 1) r
theorem loop_all {α β : Type} {L : Int → Option β} {xs : List α} {p : Nat → α → Bool} {yes no : β} (hstep : ∀ (j : Nat) (h : j < xs.length), L j = if p j xs[j] = true then L ((j : Int) + 1) else some no) (hend : L xs.length = some yes) : L 0 = some (bif allI p 0 xs then yes else no) := by
  have key : ∀ (m j : Nat), xs.length - j ≤ m → j ≤ xs.length → L j = some (bif allI p j (xs.drop j) then yes else no) := by
    intro m
    induction m with
    | zero =>
      intro j h1 h2
      obtain rfl : j = xs.length := by omega
      rw [hend, List.drop_length]; rfl
    | succ m ih =>
      intro j h1 h2
      by_cases h : j < xs.length
      · rw [hstep j h, List.drop_eq_getElem_cons h]
        have := ih (j + 1) (by omega) (by omega)
        simp only [allI]
        cases hp : p j xs[j] with
        | false => rfl
        | true =>
          rw [if_pos rfl, Bool.true_and]
          exact this
      · obtain rfl : j = xs.length := by omega
        rw [hend, List.drop_length]; rfl
  exact key xs.length 0 (by omega) (by omega)
theorem allI_all {α : Type} {q : α → Bool} : ∀ (xs : List α) (j : Nat), allI (fun _ x => q x) j xs = xs.all q
  | [], _ => rfl
  | x :: r, j => by simp [allI, allI_all r]
theorem loop_idx {α β : Type} {L : Int → Option β} {xs : List α} {q : α → Bool} {mk : Int → β} (hstep : ∀ (j : Nat) (h : j < xs.length), L j = if q xs[j] = true then some (mk j) else L ((j : Int) + 1)) (hend : L xs.length = some (mk (-1))) : ∃ r, L 0 = some (mk r) ∧ decide (0 ≤ r) = xs.any q := by
  have key : ∀ (m j : Nat), xs.length - j ≤ m → j ≤ xs.length → ∃ r, L j = some (mk r) ∧ decide (0 ≤ r) = (xs.drop j).any q := by
    intro m
    induction m with
    | zero =>
      intro j h1 h2
      obtain rfl : j = xs.length := by omega
      exact ⟨-1, hend, by simp⟩
    | succ m ih =>
      intro j h1 h2
      by_cases h : j < xs.length
      · rw [hstep j h, List.drop_eq_getElem_cons h]
        cases hp : q xs[j] with
        | true =>
          refine ⟨j, by rw [if_pos rfl], ?_⟩
          rw [List.any_cons, hp, Bool.true_or, decide_eq_true (by omega)]
        | false =>
          obtain ⟨r, h3, h4⟩ := ih (j + 1) (by omega) (by omega)
          refine ⟨r, by rw [if_neg (by simp)]; exact h3, ?_⟩
          rw [List.any_cons, hp, Bool.false_or]; exact h4
      · obtain rfl : j = xs.length := by omega
        exact ⟨-1, hend, by simp⟩
  obtain ⟨r, h1, h2⟩ := key xs.length 0 (by omega) (by omega)
  exact ⟨r, h1, by simpa using h2⟩
/-- A loop that appends. -/
theorem loop_map {α β γ : Type} {L : Int → List γ → Option β} {xs : List α} {f : α → γ} {e : List γ → β} (hstep : ∀ (j : Nat) (h : j < xs.length) (acc : List γ), acc.length = j → L j acc = L ((j : Int) + 1) (acc ++ [f xs[j]])) (hend : ∀ acc, acc.length = xs.length → L xs.length acc = some (e acc)) : L 0 [] = some (e (xs.map f)) := by
  have key : ∀ (m j : Nat) (acc : List γ), xs.length - j ≤ m → j ≤ xs.length → acc.length = j → L j acc = some (e (acc ++ (xs.drop j).map f)) := by
    intro m
    induction m with
    | zero =>
      intro j acc h1 h2 h3
      obtain rfl : j = xs.length := by omega
      rw [hend acc h3, List.drop_length]; simp
    | succ m ih =>
      intro j acc h1 h2 h3
      by_cases h : j < xs.length
      · rw [hstep j h acc h3, List.drop_eq_getElem_cons h]
        have := ih (j + 1) (acc ++ [f xs[j]]) (by omega) (by omega) (by simp [h3])
        simp only [List.map_cons]
        rw [show ((j : Int) + 1) = ((j + 1 : Nat) : Int) by omega, this]
        simp
      · obtain rfl : j = xs.length := by omega
        rw [hend acc h3, List.drop_length]; simp
  have := key xs.length 0 [] (by omega) (by omega) rfl
  simpa using this
theorem ix_map {α : Type} {sz : Nat} (enc : α → List D) (hs : ∀ x, (enc x).length = sz) (l : List α) (j : Nat) (h : j < l.length) : ix sz (l.map enc) (j : Int) = some (enc l[j]) := by
  rw [ix_eq (by omega) (by rw [List.length_map]; omega) (by intro e he; obtain ⟨x, _, rfl⟩ := List.mem_map.1 he; exact hs x)]
  simp
/-! data -/
structure Flt where
  k : Int
  t : List UInt8
  v : List UInt8
  ps : List (List UInt8)
  ks : List Flt
structure Att where
  t : List UInt8
  vs : List (List UInt8)
structure Mdf where
  k : Int
  t : List UInt8
  vs : List (List UInt8)
structure Mg where
  id : Int
  k : Int
  dn : List UInt8
  val : List UInt8
  scope : Int
  limit : Int
  flt : Flt
  types : List (List UInt8)
  mods : List Mdf
  edn : List UInt8
  attrs : List Att
  rdn : List UInt8
  old : Bool
  typ : List UInt8
  n : Int
  ofk : Int
  code : Int
  text : List UInt8
  refs : List (List UInt8)
def dS (s : List UInt8) : List D := [.str s]
def dSs (l : List (List UInt8)) : List (List D) := l.map dS
mutual
def dF : Flt → List D
  | ⟨k, t, v, ps, ks⟩ => [.int .i64 k, .str t, .str v, .list (dSs ps), .list (dFs ks)]
def dFs : List Flt → List (List D)
  | [] => []
  | x :: r => dF x :: dFs r
end
theorem dF_eq (f : Flt) : dF f = [.int .i64 f.k, .str f.t, .str f.v, .list (dSs f.ps), .list (dFs f.ks)] := by cases f; rfl
theorem dFs_map : ∀ l : List Flt, dFs l = l.map dF
  | [] => rfl
  | x :: r => by simp [dFs, dFs_map r]
theorem dFs_len (l : List Flt) : (dFs l).length = l.length := by simp [dFs_map]
theorem dSs_len (l : List (List UInt8)) : (dSs l).length = l.length := by simp [dSs]
def dA (a : Att) : List D := [.str a.t, .list (dSs a.vs)]
def dAs (l : List Att) : List (List D) := l.map dA
def dM (m : Mdf) : List D := [.int .i64 m.k, .str m.t, .list (dSs m.vs)]
def dMs (l : List Mdf) : List (List D) := l.map dM
theorem dAs_len (l : List Att) : (dAs l).length = l.length := by simp [dAs]
theorem dMs_len (l : List Mdf) : (dMs l).length = l.length := by simp [dMs]
abbrev FltT := Int × List UInt8 × List UInt8 × List (List D) × List (List D) × Unit
abbrev tupF (f : Flt) : FltT := (f.k, f.t, f.v, dSs f.ps, dFs f.ks, ())
abbrev MgT := Int × Int × List UInt8 × List UInt8 × Int × Int × Int × List UInt8 × List UInt8 × List (List D) × List (List D) × List (List D) × List (List D) × List UInt8 × List (List D) × List UInt8 × Bool × List UInt8 × Int × Int × Int × List UInt8 × List (List D) × Unit
abbrev tupM (m : Mg) : MgT := (m.id, m.k, m.dn, m.val, m.scope, m.limit, m.flt.k, m.flt.t, m.flt.v, dSs m.flt.ps, dFs m.flt.ks, dSs m.types, dMs m.mods, m.edn, dAs m.attrs, m.rdn, m.old, m.typ, m.n, m.ofk, m.code, m.text, dSs m.refs, ())
theorem dec_flt (f : Flt) : decs [.int .i64, .str, .str, .list, .list] (sub (dF f) 0 5) = some (tupF f) := by rw [dF_eq]; rfl
theorem dec_str (s : List UInt8) : decs [.str] (sub (dS s) 0 1) = some (s, ()) := rfl
theorem dec_mod (m : Mdf) : decs [.int .i64, .str, .list] (sub (dM m) 0 3) = some (m.k, m.t, dSs m.vs, ()) := rfl
theorem dec_att (a : Att) : decs [.str, .list] (sub (dA a) 0 2) = some (a.t, dSs a.vs, ()) := rfl
theorem ix_flt (l : List Flt) (j : Nat) (h : j < l.length) : ix 5 (dFs l) (j : Int) = some (dF l[j]) := by rw [dFs_map]; exact ix_map dF (fun x => by rw [dF_eq]; rfl) l j h
theorem ix_str (l : List (List UInt8)) (j : Nat) (h : j < l.length) : ix 1 (dSs l) (j : Int) = some (dS l[j]) := ix_map dS (fun _ => rfl) l j h
theorem ix_mod (l : List Mdf) (j : Nat) (h : j < l.length) : ix 3 (dMs l) (j : Int) = some (dM l[j]) := ix_map dM (fun _ => rfl) l j h
theorem ix_att (l : List Att) (j : Nat) (h : j < l.length) : ix 2 (dAs l) (j : Int) = some (dA l[j]) := ix_map dA (fun _ => rfl) l j h
/-! how large -/
def sS : List (List UInt8) → Nat
  | [] => 0
  | s :: r => 1 + s.length + sS r
mutual
def sF : Flt → Nat
  | ⟨k, t, v, ps, ks⟩ => 1 + t.length + v.length + sS ps + sFs ks
def sFs : List Flt → Nat
  | [] => 0
  | x :: r => sF x + sFs r
end
theorem sF_eq (f : Flt) : sF f = 1 + f.t.length + f.v.length + sS f.ps + sFs f.ks := by cases f; rfl
theorem sFs_mem : ∀ (l : List Flt) (x : Flt), x ∈ l → sF x ≤ sFs l
  | y :: r, x, h => by
    simp only [sFs]
    rcases List.mem_cons.1 h with rfl | h
    · omega
    · have := sFs_mem r x h
      omega
theorem sF_pos (f : Flt) : 1 ≤ sF f := by rw [sF_eq]; omega
theorem sFs_len : ∀ l : List Flt, l.length ≤ sFs l
  | [] => by simp [sFs]
  | x :: r => by
    have := sFs_len r
    have := sF_pos x
    simp only [sFs, List.length_cons]; omega
theorem sS_len : ∀ l : List (List UInt8), l.length ≤ sS l
  | [] => by simp [sS]
  | x :: r => by
    have := sS_len r
    simp only [sS, List.length_cons]; omega
theorem sS_mem : ∀ (l : List (List UInt8)) (x : List UInt8), x ∈ l → x.length + 1 ≤ sS l
  | y :: r, x, h => by
    simp only [sS]
    rcases List.mem_cons.1 h with rfl | h
    · omega
    · have := sS_mem r x h
      omega
end Go.Proofs.YtcpidokhkcmdfaaGreat.B
