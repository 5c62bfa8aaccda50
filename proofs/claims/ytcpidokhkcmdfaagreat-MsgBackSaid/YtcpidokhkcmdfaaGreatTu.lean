/- What is read of an argument: messages. Conditions: those of each theorem. -/
import Derived.Test.YtcpidokhkcmdfaaGreatTt
namespace Go.Proofs.YtcpidokhkcmdfaaGreat.B
open Go Go.Proofs Go.Proofs.YtcpidokhkcmdfaaGreat.I
set_option linter.unusedVariables false
set_option linter.unusedSimpArgs false
set_option maxRecDepth 100000
/-- A name with attributes behind it. -/
def isEnt (P : Program) (t : TypeId) : Bool := match flds P t with
  | [(0, a), (1, b)] => uStr P a && uOf P (isAtt P) b && Nat.beq (P.cellsOf t) 2
  | _ => false
theorem ty_ent {P : Program} {t : TypeId} (hF : isEnt P t = true) {ds : List D} (h : Ty P t ds) : ∃ (d : List UInt8) (l : List Att), ds = [.str d, .list (dAs l)] := by
  unfold isEnt at hF
  split at hF
  · rename_i a b hfl
    simp only [Bool.and_eq_true] at hF
    obtain ⟨⟨ha, hb⟩, hn⟩ := hF
    have hn := beq_iff.1 hn
    obtain ⟨hl, hx⟩ := ty_struct (by rw [hfl]; simp) h
    rw [hfl] at hx
    obtain ⟨k, g0, _⟩ := ty_str ha (hx (0, a) (by simp))
    obtain ⟨l, g1⟩ := ty_atts hb (hx (1, b) (by simp))
    obtain ⟨x0, x1, rfl⟩ := two' (hl.trans hn)
    have r0 := get_of g0; have r1 := get_of g1
    clear g0 g1
    simp at r0 r1
    subst r0 r1
    exact ⟨k, l, rfl⟩
  · cases hF
theorem drops_of {α : Type} {l : List α} {i n : Nat} {xs : List α} (h : (l.drop i).take n = xs) (j : Nat) (hj : j < xs.length) : l[i + j]? = xs[j]? := by
  subst h
  rw [List.getElem?_take]
  rw [List.length_take] at hj
  rw [if_pos (by omega), List.getElem?_drop]
/-- The cells of a message. -/
def dMg (m : Mg) : List D := [.int .i64 m.id, .int .i64 m.k, .str m.dn, .str m.val, .int .i64 m.scope, .int .i64 m.limit, .int .i64 m.flt.k, .str m.flt.t, .str m.flt.v, .list (dSs m.flt.ps), .list (dFs m.flt.ks), .list (dSs m.types), .list (dMs m.mods), .str m.edn, .list (dAs m.attrs), .str m.rdn, .bool m.old, .str m.typ, .int .i64 m.n, .int .i64 m.ofk, .int .i64 m.code, .str m.text, .list (dSs m.refs)]
def isMsg (P : Program) (t : TypeId) : Bool := match flds P t with
  | [(0, a), (1, b), (2, c), (3, d), (4, e), (5, f), (6, g), (11, h), (12, i), (13, j), (15, k), (16, l), (17, m), (18, n), (19, o), (20, p), (21, q), (22, r)] => uInt P .i64 a && uInt P .i64 b && uStr P c && uStr P d && uInt P .i64 e && uInt P .i64 f && (isFlt P g && Nat.beq (P.cellsOf g) 5) && uOf P (uStr P) h && uOf P (isMod P) i && (isEnt P j && Nat.beq (P.cellsOf j) 2) && uStr P k && uBool P l && uStr P m && uInt P .i64 n && uInt P .i64 o && uInt P .i64 p && uStr P q && uOf P (uStr P) r && Nat.beq (P.cellsOf t) 23
  | _ => false
theorem list_of {α : Type} {l r : List α} (hl : l.length = r.length) (h : ∀ i : Nat, i < r.length → l[i]? = r[i]?) : l = r := by
  apply List.ext_getElem? 
  intro i
  by_cases hi : i < r.length
  · exact h i hi
  · rw [List.getElem?_eq_none (by omega), List.getElem?_eq_none (by omega)]
theorem ty_msg {P : Program} {t : TypeId} (hF : isMsg P t = true) {ds : List D} (HT : Ty P t ds) : ∃ m : Mg, ds = dMg m := by
  unfold isMsg at hF
  split at hF
  · rename_i a b c d e f g h i j k l m n o p q r HFL
    simp only [Bool.and_eq_true] at hF
    obtain ⟨⟨⟨⟨⟨⟨⟨⟨⟨⟨⟨⟨⟨⟨⟨⟨⟨⟨ha, hb⟩, hc⟩, hd⟩, he⟩, hf⟩, ⟨hg, cg⟩⟩, hh⟩, hi⟩, ⟨hj, cj⟩⟩, hk⟩, hl⟩, hm⟩, hn⟩, ho⟩, hp⟩, hq⟩, hr⟩, hN⟩ := hF
    have hN := beq_iff.1 hN
    obtain ⟨HL, HX⟩ := ty_struct (by rw [HFL]; simp) HT
    rw [HFL] at HX
    obtain ⟨xa, ga, _⟩ := ty_int ha (HX (0, a) (by simp))
    obtain ⟨xb, gb, _⟩ := ty_int hb (HX (1, b) (by simp))
    obtain ⟨xc, gc, _⟩ := ty_str hc (HX (2, c) (by simp))
    obtain ⟨xd, gd, _⟩ := ty_str hd (HX (3, d) (by simp))
    obtain ⟨xe, ge, _⟩ := ty_int he (HX (4, e) (by simp))
    obtain ⟨xf, gf, _⟩ := ty_int hf (HX (5, f) (by simp))
    obtain ⟨xg, gg⟩ := ty_flt hg (HX (6, g) (by simp))
    obtain ⟨xh, gh⟩ := ty_strs hh (HX (11, h) (by simp))
    obtain ⟨xi, gi⟩ := ty_mods hi (HX (12, i) (by simp))
    obtain ⟨xj, yj, gj⟩ := ty_ent hj (HX (13, j) (by simp))
    obtain ⟨xk, gk, _⟩ := ty_str hk (HX (15, k) (by simp))
    obtain ⟨xl, gl⟩ := ty_bool hl (HX (16, l) (by simp))
    obtain ⟨xm, gm, _⟩ := ty_str hm (HX (17, m) (by simp))
    obtain ⟨xn, gn, _⟩ := ty_int hn (HX (18, n) (by simp))
    obtain ⟨xo, go, _⟩ := ty_int ho (HX (19, o) (by simp))
    obtain ⟨xp, gp, _⟩ := ty_int hp (HX (20, p) (by simp))
    obtain ⟨xq, gq, _⟩ := ty_str hq (HX (21, q) (by simp))
    obtain ⟨xr, gr⟩ := ty_strs hr (HX (22, r) (by simp))
    refine ⟨⟨xa, xb, xc, xd, xe, xf, xg, xh, xi, xj, yj, xk, xl, xm, xn, xo, xp, xq, xr⟩, list_of (HL.trans hN) fun i hi => ?_⟩
    have hi : i < 23 := hi
    have r0 := drops_of ga 0 (by simp)
    have r1 := drops_of gb 0 (by simp)
    have r2 := drops_of gc 0 (by simp)
    have r3 := drops_of gd 0 (by simp)
    have r4 := drops_of ge 0 (by simp)
    have r5 := drops_of gf 0 (by simp)
    rw [dF_eq] at gg
    have r6 := drops_of gg 0 (by simp)
    have r7 := drops_of gg 1 (by simp)
    have r8 := drops_of gg 2 (by simp)
    have r9 := drops_of gg 3 (by simp)
    have r10 := drops_of gg 4 (by simp)
    have r11 := drops_of gh 0 (by simp)
    have r12 := drops_of gi 0 (by simp)
    have r13 := drops_of gj 0 (by simp)
    have r14 := drops_of gj 1 (by simp)
    have r15 := drops_of gk 0 (by simp)
    have r16 := drops_of gl 0 (by simp)
    have r17 := drops_of gm 0 (by simp)
    have r18 := drops_of gn 0 (by simp)
    have r19 := drops_of go 0 (by simp)
    have r20 := drops_of gp 0 (by simp)
    have r21 := drops_of gq 0 (by simp)
    have r22 := drops_of gr 0 (by simp)
    clear ga gb gc gd ge gf gg gh gi gj gk gl gm gn go gp gq gr
    match i, hi with
    | 0, _ => exact r0
    | 1, _ => exact r1
    | 2, _ => exact r2
    | 3, _ => exact r3
    | 4, _ => exact r4
    | 5, _ => exact r5
    | 6, _ => exact r6
    | 7, _ => exact r7
    | 8, _ => exact r8
    | 9, _ => exact r9
    | 10, _ => exact r10
    | 11, _ => exact r11
    | 12, _ => exact r12
    | 13, _ => exact r13
    | 14, _ => exact r14
    | 15, _ => exact r15
    | 16, _ => exact r16
    | 17, _ => exact r17
    | 18, _ => exact r18
    | 19, _ => exact r19
    | 20, _ => exact r20
    | 21, _ => exact r21
    | 22, _ => exact r22
    | n + 23, h => exact absurd h (by omega)
  · cases hF
end Go.Proofs.YtcpidokhkcmdfaaGreat.B
