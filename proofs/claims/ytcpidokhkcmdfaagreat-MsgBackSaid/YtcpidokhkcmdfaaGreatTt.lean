/- What is read of an argument: filters, entries, messages, by their types' shapes. Conditions: those of each theorem. -/
import Derived.Test.YtcpidokhkcmdfaaGreatTq
namespace Go.Proofs.YtcpidokhkcmdfaaGreat.B
open Go Go.Proofs Go.Proofs.YtcpidokhkcmdfaaGreat.I
set_option linter.unusedVariables false
set_option linter.unusedSimpArgs false
set_option maxRecDepth 100000
def uInt (P : Program) (k : IntKind) (t : TypeId) : Bool := match P.underlying t with
  | some (.int k') => kEq k k'
  | _ => false
def uStr (P : Program) (t : TypeId) : Bool := match P.underlying t with
  | some .string => true
  | _ => false
def uBool (P : Program) (t : TypeId) : Bool := match P.underlying t with
  | some .bool => true
  | _ => false
def uSlice (P : Program) (t e : TypeId) : Bool := match P.underlying t with
  | some (.slice e') => Nat.beq e e'
  | _ => false
def uOf (P : Program) (p : TypeId → Bool) (t : TypeId) : Bool := match P.underlying t with
  | some (.slice e) => p e
  | _ => false
/-- A struct's fields: whence, of which type. -/
def flds (P : Program) (t : TypeId) : List (Nat × TypeId) := match P.underlying t with
  | some (.struct fs) => fs.toList.map fun f => (f.offset, f.type)
  | _ => []
theorem kEq_iff {a b : IntKind} (h : kEq a b = true) : a = b := of_decide_eq_true h
section
variable {P : Program} {t : TypeId} {ds : List D}
theorem ty_int {k : IntKind} (hu : uInt P k t = true) (h : Ty P t ds) : ∃ n, ds = [.int k n] ∧ (Lit.int k n).wf = true := by
  unfold uInt at hu
  split at hu
  · rename_i k' hk
    have := kEq_iff hu; subst this
    cases h with
    | bool _ b hb => rw [hk] at hb; cases hb
    | int _ k n hb hw => rw [hk] at hb; injection hb with hb; injection hb with hb; subst hb; exact ⟨n, rfl, hw⟩
    | str _ s hb => rw [hk] at hb; cases hb
    | list _ e xs hb => rw [hk] at hb; cases hb
    | struct _ fs ds hb => rw [hk] at hb; cases hb
  · cases hu
theorem ty_str (hu : uStr P t = true) (h : Ty P t ds) : ∃ s, ds = [.str s] ∧ s.length ≤ maxLen := by
  unfold uStr at hu
  split at hu
  · rename_i hk
    cases h with
    | bool _ b hb => rw [hk] at hb; cases hb
    | int _ k n hb hw => rw [hk] at hb; cases hb
    | str _ s hb hl => exact ⟨s, rfl, hl⟩
    | list _ e xs hb => rw [hk] at hb; cases hb
    | struct _ fs ds hb => rw [hk] at hb; cases hb
  · cases hu
theorem ty_bool (hu : uBool P t = true) (h : Ty P t ds) : ∃ b, ds = [.bool b] := by
  unfold uBool at hu
  split at hu
  · rename_i hk
    cases h with
    | bool _ b hb => exact ⟨b, rfl⟩
    | int _ k n hb hw => rw [hk] at hb; cases hb
    | str _ s hb hl => rw [hk] at hb; cases hb
    | list _ e xs hb => rw [hk] at hb; cases hb
    | struct _ fs ds hb => rw [hk] at hb; cases hb
  · cases hu
theorem ty_slice {p : TypeId → Bool} (hu : uOf P p t = true) (h : Ty P t ds) : ∃ e xs, ds = [.list xs] ∧ xs.length ≤ maxLen ∧ p e = true ∧ P.underlying t = some (.slice e) ∧ ∀ x ∈ xs, Ty P e x := by
  unfold uOf at hu
  split at hu
  · rename_i e' hk
    cases h with
    | bool _ b hb => rw [hk] at hb; cases hb
    | int _ k n hb hw => rw [hk] at hb; cases hb
    | str _ s hb hl => rw [hk] at hb; cases hb
    | list _ e xs hb hl _ hx => rw [hk] at hb; injection hb with hb; injection hb with hb; subst hb; exact ⟨_, xs, rfl, hl, hu, hk, hx⟩
    | struct _ fs ds hb => rw [hk] at hb; cases hb
  · cases hu
theorem ty_struct (hf : flds P t ≠ []) (h : Ty P t ds) : ds.length = P.cellsOf t ∧ ∀ p ∈ flds P t, Ty P p.2 ((ds.drop p.1).take (P.cellsOf p.2)) := by
  unfold flds at hf
  split at hf
  · rename_i fs hk
    cases h with
    | bool _ b hb => rw [hk] at hb; cases hb
    | int _ k n hb hw => rw [hk] at hb; cases hb
    | str _ s hb hl => rw [hk] at hb; cases hb
    | list _ e xs hb => rw [hk] at hb; cases hb
    | struct _ fs' ds hb hl hx =>
      rw [hk] at hb; injection hb with hb; injection hb with hb; subst hb
      refine ⟨hl, fun p hp => ?_⟩
      unfold flds at hp
      rw [hk] at hp
      obtain ⟨f, hf, rfl⟩ := List.mem_map.1 hp
      exact hx f hf
  · exact absurd rfl hf
end
theorem get_of {α : Type} {l : List α} {i n : Nat} {x : α} (h : (l.drop i).take n = [x]) : l[i]? = some x := by
  have h0 : ((l.drop i).take n)[0]? = some x := by rw [h]; rfl
  rw [List.getElem?_take] at h0
  split at h0
  · rw [List.getElem?_drop] at h0; simpa using h0
  · cases h0
/-- texts of a list -/
theorem all_strs {P : Program} {e : TypeId} (hu : uStr P e = true) : ∀ xs : List (List D), (∀ x ∈ xs, Ty P e x) → ∃ l : List (List UInt8), xs = dSs l
  | [], _ => ⟨[], rfl⟩
  | x :: r, h => by
    obtain ⟨s, rfl, _⟩ := ty_str hu (h x (by simp))
    obtain ⟨l, rfl⟩ := all_strs hu r fun y hy => h y (List.mem_cons_of_mem _ hy)
    exact ⟨s :: l, rfl⟩
theorem ty_strs {P : Program} {t : TypeId} {ds : List D} (hu : uOf P (uStr P) t = true) (h : Ty P t ds) : ∃ l : List (List UInt8), ds = [.list (dSs l)] := by
  obtain ⟨e, xs, rfl, _, he, _, hx⟩ := ty_slice hu h
  obtain ⟨l, rfl⟩ := all_strs he xs hx
  exact ⟨l, rfl⟩
/-- bytes of a list -/
def dB (l : List Int) : List (List D) := l.map fun n => [.int .u8 n]
theorem all_ints {P : Program} {e : TypeId} (hu : uInt P .u8 e = true) : ∀ xs : List (List D), (∀ x ∈ xs, Ty P e x) → ∃ l : List Int, xs = rowI l ∧ ∀ n ∈ l, 0 ≤ n ∧ n < 256
  | [], _ => ⟨[], rfl, by simp⟩
  | x :: r, h => by
    obtain ⟨n, rfl, hw⟩ := ty_int hu (h x (by simp))
    obtain ⟨l, rfl, hl⟩ := all_ints hu r fun y hy => h y (List.mem_cons_of_mem _ hy)
    refine ⟨n :: l, rfl, fun y hy => ?_⟩
    rcases List.mem_cons.1 hy with rfl | hy
    · simp [Lit.wf, IntKind.bits, IntKind.signed, IntKind.min, IntKind.max] at hw
      omega
    · exact hl y hy
theorem ty_ints {P : Program} {t : TypeId} {ds : List D} (hu : uOf P (uInt P .u8) t = true) (h : Ty P t ds) : ∃ l : List Int, ds = [.list (rowI l)] ∧ (∀ n ∈ l, 0 ≤ n ∧ n < 256) ∧ l.length ≤ maxLen := by
  obtain ⟨e, xs, rfl, hl, he, _, hx⟩ := ty_slice hu h
  obtain ⟨l, rfl, hb⟩ := all_ints he xs hx
  exact ⟨l, rfl, hb, by simpa [rowI] using hl⟩
/-! filters -/
def isFlt (P : Program) (t : TypeId) : Bool := match flds P t with
  | [(0, a), (1, b), (2, c), (3, d), (4, e)] => uInt P .i64 a && uStr P b && uStr P c && uOf P (uStr P) d && uSlice P e t && Nat.beq (P.cellsOf t) 5
  | _ => false
theorem five {α : Type} {l : List α} (h : l.length = 5) : ∃ a b c d e, l = [a, b, c, d, e] := by
  match l, h with
  | [a, b, c, d, e], _ => exact ⟨a, b, c, d, e, rfl⟩
theorem flt_of {P : Program} {t : TypeId} (hF : isFlt P t = true) {ds : List D} : (∀ u ds, Ty P u ds → (u = t → ∃ f : Flt, ds = dF f) ∧ (uSlice P u t = true → ∃ l : List Flt, ds = [.list (dFs l)])) := by
  intro u ds h
  induction h with
  | bool t' b hb =>
    refine ⟨fun e => ?_, fun e => ?_⟩
    · subst e; unfold isFlt flds at hF; rw [hb] at hF; cases hF
    · unfold uSlice at e; rw [hb] at e; cases e
  | int t' k n hb hw =>
    refine ⟨fun e => ?_, fun e => ?_⟩
    · subst e; unfold isFlt flds at hF; rw [hb] at hF; cases hF
    · unfold uSlice at e; rw [hb] at e; cases e
  | str t' s hb hl =>
    refine ⟨fun e => ?_, fun e => ?_⟩
    · subst e; unfold isFlt flds at hF; rw [hb] at hF; cases hF
    · unfold uSlice at e; rw [hb] at e; cases e
  | list t' e xs hb hl hs hx ih =>
    refine ⟨fun e => ?_, fun e => ?_⟩
    · subst e; unfold isFlt flds at hF; rw [hb] at hF; cases hF
    · unfold uSlice at e
      rw [hb] at e
      have e := beq_iff.1 e
      subst e
      have : ∀ l : List (List D), (∀ x ∈ l, ∃ f : Flt, x = dF f) → ∃ fs : List Flt, l = dFs fs := by
        intro l
        induction l with
        | nil => intro _; exact ⟨[], rfl⟩
        | cons x r ihl =>
          intro h
          obtain ⟨f, rfl⟩ := h x (by simp)
          obtain ⟨fs, rfl⟩ := ihl fun y hy => h y (List.mem_cons_of_mem _ hy)
          exact ⟨f :: fs, rfl⟩
      obtain ⟨fs, rfl⟩ := this xs fun x hx => (ih x hx).1 rfl
      exact ⟨fs, rfl⟩
  | struct t' fs ds hb hl hx ih =>
    refine ⟨fun e => ?_, fun e => ?_⟩
    · subst e
      have hF0 := hF
      unfold isFlt at hF
      split at hF
      · rename_i a b c d e hfl
        simp only [Bool.and_eq_true] at hF
        obtain ⟨⟨⟨⟨⟨ha, hb'⟩, hc⟩, hd⟩, he⟩, hn⟩ := hF
        have hn := beq_iff.1 hn
        have hflds : flds P t' = fs.toList.map fun f => (f.offset, f.type) := by unfold flds; rw [hb]
        have hget : ∀ o u, (o, u) ∈ flds P t' → Ty P u ((ds.drop o).take (P.cellsOf u)) ∧ (uSlice P u t' = true → ∃ l : List Flt, (ds.drop o).take (P.cellsOf u) = [.list (dFs l)]) := by
          intro o u hm
          rw [hflds] at hm
          obtain ⟨f, hf, e⟩ := List.mem_map.1 hm
          injection e with e1 e2
          subst e1 e2
          exact ⟨hx f hf, (ih f hf).2⟩
        rw [hfl] at hget
        obtain ⟨k, g0, _⟩ := ty_int ha (hget 0 a (by simp)).1
        obtain ⟨t1, g1, _⟩ := ty_str hb' (hget 1 b (by simp)).1
        obtain ⟨v, g2, _⟩ := ty_str hc (hget 2 c (by simp)).1
        obtain ⟨ps, g3⟩ := ty_strs hd (hget 3 d (by simp)).1
        obtain ⟨ks, g4⟩ := (hget 4 e (by simp)).2 he
        obtain ⟨x0, x1, x2, x3, x4, rfl⟩ := five (hl.trans hn)
        have r0 := get_of g0; have r1 := get_of g1; have r2 := get_of g2; have r3 := get_of g3; have r4 := get_of g4
        clear g0 g1 g2 g3 g4
        simp at r0 r1 r2 r3 r4
        subst r0 r1 r2 r3 r4
        exact ⟨⟨k, t1, v, ps, ks⟩, rfl⟩
      · cases hF
    · unfold uSlice at e; rw [hb] at e; cases e
theorem ty_flt {P : Program} {t : TypeId} (hF : isFlt P t = true) {ds : List D} (h : Ty P t ds) : ∃ f : Flt, ds = dF f := ((flt_of (ds := ds) hF) t ds h).1 rfl
/-! entries and changes -/
def isAtt (P : Program) (t : TypeId) : Bool := match flds P t with
  | [(0, a), (1, b)] => uStr P a && uOf P (uStr P) b && Nat.beq (P.cellsOf t) 2
  | _ => false
def isMod (P : Program) (t : TypeId) : Bool := match flds P t with
  | [(0, a), (1, b), (2, c)] => uInt P .i64 a && uStr P b && uOf P (uStr P) c && Nat.beq (P.cellsOf t) 3
  | _ => false
theorem two' {α : Type} {l : List α} (h : l.length = 2) : ∃ a b, l = [a, b] := by
  match l, h with
  | [a, b], _ => exact ⟨a, b, rfl⟩
theorem three' {α : Type} {l : List α} (h : l.length = 3) : ∃ a b c, l = [a, b, c] := by
  match l, h with
  | [a, b, c], _ => exact ⟨a, b, c, rfl⟩
theorem ty_att {P : Program} {t : TypeId} (hF : isAtt P t = true) {ds : List D} (h : Ty P t ds) : ∃ a : Att, ds = dA a := by
  unfold isAtt at hF
  split at hF
  · rename_i a b hfl
    simp only [Bool.and_eq_true] at hF
    obtain ⟨⟨ha, hb⟩, hn⟩ := hF
    have hn := beq_iff.1 hn
    obtain ⟨hl, hx⟩ := ty_struct (by rw [hfl]; simp) h
    rw [hfl] at hx
    obtain ⟨k, g0, _⟩ := ty_str ha (hx (0, a) (by simp))
    obtain ⟨l, g1⟩ := ty_strs hb (hx (1, b) (by simp))
    obtain ⟨x0, x1, rfl⟩ := two' (hl.trans hn)
    have r0 := get_of g0; have r1 := get_of g1
    clear g0 g1
    simp at r0 r1
    subst r0 r1
    exact ⟨⟨k, l⟩, rfl⟩
  · cases hF
theorem ty_mod {P : Program} {t : TypeId} (hF : isMod P t = true) {ds : List D} (h : Ty P t ds) : ∃ a : Mdf, ds = dM a := by
  unfold isMod at hF
  split at hF
  · rename_i a b c hfl
    simp only [Bool.and_eq_true] at hF
    obtain ⟨⟨⟨ha, hb⟩, hc⟩, hn⟩ := hF
    have hn := beq_iff.1 hn
    obtain ⟨hl, hx⟩ := ty_struct (by rw [hfl]; simp) h
    rw [hfl] at hx
    obtain ⟨k, g0, _⟩ := ty_int ha (hx (0, a) (by simp))
    obtain ⟨t1, g1, _⟩ := ty_str hb (hx (1, b) (by simp))
    obtain ⟨l, g2⟩ := ty_strs hc (hx (2, c) (by simp))
    obtain ⟨x0, x1, x2, rfl⟩ := three' (hl.trans hn)
    have r0 := get_of g0; have r1 := get_of g1; have r2 := get_of g2
    clear g0 g1 g2
    simp at r0 r1 r2
    subst r0 r1 r2
    exact ⟨⟨k, t1, l⟩, rfl⟩
  · cases hF
theorem all_atts {P : Program} {e : TypeId} (hu : isAtt P e = true) : ∀ xs : List (List D), (∀ x ∈ xs, Ty P e x) → ∃ l : List Att, xs = l.map dA
  | [], _ => ⟨[], rfl⟩
  | x :: r, h => by
    obtain ⟨s, rfl⟩ := ty_att hu (h x (by simp))
    obtain ⟨l, rfl⟩ := all_atts hu r fun y hy => h y (List.mem_cons_of_mem _ hy)
    exact ⟨s :: l, rfl⟩
theorem ty_atts {P : Program} {t : TypeId} {ds : List D} (hu : uOf P (isAtt P) t = true) (h : Ty P t ds) : ∃ l : List Att, ds = [.list (l.map dA)] := by
  obtain ⟨e, xs, rfl, _, he, _, hx⟩ := ty_slice hu h
  obtain ⟨l, rfl⟩ := all_atts he xs hx
  exact ⟨l, rfl⟩
theorem all_mods {P : Program} {e : TypeId} (hu : isMod P e = true) : ∀ xs : List (List D), (∀ x ∈ xs, Ty P e x) → ∃ l : List Mdf, xs = l.map dM
  | [], _ => ⟨[], rfl⟩
  | x :: r, h => by
    obtain ⟨s, rfl⟩ := ty_mod hu (h x (by simp))
    obtain ⟨l, rfl⟩ := all_mods hu r fun y hy => h y (List.mem_cons_of_mem _ hy)
    exact ⟨s :: l, rfl⟩
theorem ty_mods {P : Program} {t : TypeId} {ds : List D} (hu : uOf P (isMod P) t = true) (h : Ty P t ds) : ∃ l : List Mdf, ds = [.list (l.map dM)] := by
  obtain ⟨e, xs, rfl, _, he, _, hx⟩ := ty_slice hu h
  obtain ⟨l, rfl⟩ := all_mods he xs hx
  exact ⟨l, rfl⟩
end Go.Proofs.YtcpidokhkcmdfaaGreat.B
