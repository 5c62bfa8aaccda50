/- What is read of an argument is of its kind, type by type. Conditions: those of each theorem. -/
import Derived.Test.YtjlcmahknldjpaaVWords
import Derived.ChangeArms
import Derived.DataReads
namespace Go.Proofs.Ytjlcmahknldjpaa.Opens
open Go.Proofs.YtjlcmahknldjpaaV.PrintWords Go.RowKit
set_option linter.unusedVariables false

/-- What is read as of type t is of this kind, with this property; read so deep at most. -/
def Opens {α : Type} (P : Program) (n : Nat) (d : Kd α) (t : TypeId) (ok : α → Prop) : Prop :=
  ∀ (H : Type) (enc : TypeId × Value → H) (w : World) (base : Nat) (spare : Nat → Bool) (held : Bool) (m : Nat), m ≤ n → ∀ (cs : List Value) (x : DataW H × List MemPlace),
    DataW.trod enc P w base spare held m t cs = some x → ∃ a, d.K w a cs ∧ ok a
theorem Opens.mono {α : Type} {P : Program} {n m : Nat} {d : Kd α} {t : TypeId} {ok : α → Prop} (h : Opens P n d t ok) (hm : m ≤ n) : Opens P m d t ok :=
  fun H enc w base spare held k hk => h H enc w base spare held k (by omega)
theorem Opens.ok {α : Type} {P : Program} {n : Nat} {d : Kd α} {t : TypeId} {ok ok' : α → Prop} (h : Opens P n d t ok) (hm : ∀ a, ok a → ok' a) : Opens P n d t ok' :=
  fun H enc w base spare held k hk cs x hx => by
    obtain ⟨a, h1, h2⟩ := h H enc w base spare held k hk cs x hx
    exact ⟨a, h1, hm a h2⟩
theorem opens_int {P : Program} {t : TypeId} {k : IntKind} (ht : P.underlying t = some (.int k)) (n : Nat) : Opens P n (Kd.int k) t (fun x => (Lit.int k x).wf = true) := by
  intro H enc w base spare held m hm cs x hx
  obtain ⟨v, rfl, rfl, hw⟩ := DataW.trod_int ht hx
  exact ⟨v, rfl, hw⟩
theorem opens_bool {P : Program} {t : TypeId} (ht : P.underlying t = some .bool) (n : Nat) : Opens P n Kd.bool t (fun _ => True) := by
  intro H enc w base spare held m hm cs x hx
  obtain ⟨v, rfl, rfl⟩ := DataW.trod_bool ht hx
  exact ⟨v, rfl, trivial⟩
theorem opens_string {P : Program} {t : TypeId} (ht : P.underlying t = some .string) (n : Nat) : Opens P n Kd.string t (fun s => s.size ≤ maxLen) := by
  intro H enc w base spare held m hm cs x hx
  obtain ⟨v, rfl, rfl, hs⟩ := DataW.trod_string ht hx
  exact ⟨v, rfl, hs⟩
theorem opens_slice {α : Type} {P : Program} {t e : TypeId} {d : Kd α} {ok : α → Prop} {n : Nat} (ht : P.underlying t = some (.slice e)) (hc : P.cellsOf e = d.sz) (h : Opens P n d e ok) :
    Opens P (n + 1) (Kd.slice e d) t (fun xs => ∀ x ∈ xs, ok x) := by
  intro H enc w base spare held m hm cs x hx
  rcases DataW.trod_slice ht hx with ⟨rfl, rfl⟩ | ⟨a, len, cap, elems, rest, k, rfl, rfl, rfl, hb, hl, hm2, hlen, hel, _, _⟩
  · exact ⟨[], ⟨none, 0, rfl, Nat.le_refl _, rfl, by simp, fun hn => absurd hn (by simp)⟩, by simp⟩
  · have each : ∀ i : Fin len, ∃ x cs', d.K w x cs' ∧ ok x ∧ w.cells? base (a.add (i.val * P.cellsOf e)) (P.cellsOf e) = some cs' := by
      intro i
      have := hel i.val i.isLt
      rw [List.getElem?_eq_getElem (by omega), Option.bind_eq_some_iff] at this
      obtain ⟨cs', h1, h2⟩ := this
      obtain ⟨x, h3, h4⟩ := h H enc w base spare held k (by omega) cs' _ h2
      exact ⟨x, cs', h3, h4, h1⟩
    refine ⟨List.ofFn (fun i : Fin len => (each i).choose), ⟨some a, cap, by simp, by simp; omega, by simp, by simp [maxLen] at hm2 ⊢; omega, fun _ => ⟨a, rfl, ?_⟩⟩, ?_⟩
    · intro j p hj
      obtain ⟨hj1, hj2⟩ := List.getElem?_eq_some_iff.1 hj
      rw [List.length_ofFn] at hj1
      rw [List.getElem_ofFn] at hj2
      subst hj2
      obtain ⟨cs', h1, h2, h3⟩ := (each ⟨j, hj1⟩).choose_spec
      refine ⟨cs', d.K_len h1, h1, ?_⟩
      intro i u hu
      obtain ⟨h4, h5, h6⟩ := World.cells?_some h3
      have hi := (List.getElem?_eq_some_iff.1 hu).1
      have h7 := h6 i (by omega)
      rw [hu, hc] at h7
      rw [← h7]
      congr 1
      exact (Addr.add_add _ _ _).symm
    · intro x hx
      obtain ⟨i, rfl⟩ := (List.mem_ofFn).1 hx
      obtain ⟨cs', h1, h2, h3⟩ := (each i).choose_spec
      exact h2

/-- Fields in line, from a cell on. -/
def OpensL {α : Type} (P : Program) (n : Nat) (d : Kd α) (fs : List Field) (off tot : Nat) (ok : α → Prop) : Prop :=
  ∀ (H : Type) (enc : TypeId × Value → H) (w : World) (base : Nat) (spare : Nat → Bool) (held : Bool) (m : Nat), m ≤ n → ∀ (cs : List Value), cs.length = tot →
    (∀ f ∈ fs, ∃ x, DataW.trod enc P w base spare held m f.type ((cs.drop f.offset).take (P.cellsOf f.type)) = some x) → ∃ a, d.K w a (cs.drop off) ∧ ok a
theorem opensL_last {α : Type} {P : Program} {n : Nat} {d : Kd α} {f : Field} {off tot : Nat} {ok : α → Prop} (ho : f.offset = off) (ht : off + P.cellsOf f.type = tot) (h : Opens P n d f.type ok) : OpensL P n d [f] off tot ok := by
  intro H enc w base spare held m hm cs hl hf
  obtain ⟨x, hx⟩ := hf f (by simp)
  rw [ho, List.take_of_length_le (by rw [List.length_drop]; omega)] at hx
  exact h H enc w base spare held m hm _ _ hx
theorem opensL_cons {α β : Type} {P : Program} {n : Nat} {d : Kd α} {e : Kd β} {f : Field} {fs : List Field} {off tot : Nat} {ok : α → Prop} {ok' : β → Prop} (ho : f.offset = off) (hc : P.cellsOf f.type = d.sz)
    (h : Opens P n d f.type ok) (h' : OpensL P n e fs (off + d.sz) tot ok') : OpensL P n (Kd.pair d e) (f :: fs) off tot (fun p => ok p.1 ∧ ok' p.2) := by
  intro H enc w base spare held m hm cs hl hf
  obtain ⟨x, hx⟩ := hf f (by simp)
  obtain ⟨a, ha, hok⟩ := h H enc w base spare held m hm _ _ hx
  obtain ⟨b, hb, hok'⟩ := h' H enc w base spare held m hm cs hl (fun g hg => hf g (List.mem_cons_of_mem _ hg))
  refine ⟨(a, b), ⟨_, _, ?_, ha, hb⟩, hok, hok'⟩
  rw [ho, hc, ← List.drop_drop, List.take_append_drop]
theorem opens_struct {α : Type} {P : Program} {t : TypeId} {fs : Array Field} {n : Nat} {d : Kd α} {ok : α → Prop} (ht : P.underlying t = some (.struct fs)) (h : OpensL P n d fs.toList 0 (P.cellsOf t) ok) : Opens P (n + 1) d t ok := by
  intro H enc w base spare held m hm cs x hx
  obtain ⟨xs, k, rfl, rfl, hl, hxl, hf⟩ := DataW.trod_struct ht hx
  have := h H enc w base spare held k (by omega) cs hl (fun f hmem => by
    obtain ⟨i, hi⟩ := List.getElem?_of_mem hmem
    have hi2 : fs[i]? = some f := by simpa using hi
    have hlt : i < fs.size := (Array.getElem?_eq_some_iff.1 hi2).1
    have := hf i f hi2
    rw [List.getElem?_eq_getElem (by omega)] at this
    exact ⟨_, this⟩)
  rw [List.drop_zero] at this
  exact this
theorem opens_iso {α β : Type} {P : Program} {n : Nat} {d : Kd α} {t : TypeId} {ok : α → Prop} (f : β → α) (g : α → β) (hg : ∀ a, f (g a) = a) (h : Opens P n d t ok) : Opens P n (Kd.iso d f) t (fun b => ok (f b)) := by
  intro H enc w base spare held m hm cs x hx
  obtain ⟨a, h1, h2⟩ := h H enc w base spare held m hm cs x hx
  refine ⟨g a, ?_, ?_⟩
  · show d.K w (f (g a)) cs
    rw [hg]; exact h1
  · show ok (f (g a))
    rw [hg]; exact h2
theorem opens_zero {α : Type} (P : Program) (d : Kd α) (t : TypeId) (ok : α → Prop) : Opens P 0 d t ok := by
  intro H enc w base spare held m hm cs x hx
  obtain rfl : m = 0 := by omega
  cases hx
end Go.Proofs.Ytjlcmahknldjpaa.Opens
