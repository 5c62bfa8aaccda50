/- The law ConnOver, of plain data. Conditions: those of each theorem. -/
import Derived.Test.YtejgmifipdcneaaVb
import Derived.Test.YtejgmifipdcneaaMa
namespace Go.Proofs.Ytejgmifipdcneaa.B
open Go Go.Proofs Go.Proofs.Ytejgmifipdcneaa.I
set_option linter.unusedVariables false
set_option linter.unusedSimpArgs false
set_option maxRecDepth 100000
theorem told_front {g : List UInt8} {m : Mg} (h : Told g m) (r : List UInt8) : fed (g ++ r) = if 9 < m.k then ([], [], 1) else if m.k = 2 then ([m], [], 2) else (m :: (fed r).1, (fed r).2) := by
  have hp := told_parse h []
  rw [List.append_nil] at hp
  have e0 : pE g = 0 := by unfold pE; rw [hp]
  have en : pLn g = g.length := by unfold pLn; rw [hp]; simp
  obtain ⟨a0, a1⟩ := pE_app (s := g) (r := r) (by omega)
  rw [fed_eq, a0, if_neg (by omega), if_pos e0, a1, en, List.take_left, List.drop_left, toldOf_yes h]
/-- What ends a line, whatever follows. -/
def Bad (x : List UInt8) : Prop := x.length ≤ 1048581 ∧ ∀ r, fed (x ++ r) = ([], [], 1)
theorem bad_err {x : List UInt8} (hl : x.length ≤ 100) (h6 : pE x ≠ 6) (h0 : pE x ≠ 0) : Bad x := by
  refine ⟨by omega, fun r => ?_⟩
  obtain ⟨a0, a1⟩ := pE_app (s := x) (r := r) h6
  rw [fed_eq, a0, if_neg h6, if_neg h0]
theorem bad_not {x : List UInt8} (hl : x.length ≤ 100) (h0 : pE x = 0) (hn : pLn x = x.length) (h : ∀ m, ¬ Told x m) : Bad x := by
  refine ⟨by omega, fun r => ?_⟩
  obtain ⟨a0, a1⟩ := pE_app (s := x) (r := r) (by omega)
  rw [fed_eq, a0, if_neg (by omega), if_pos h0, a1, hn, List.take_left, toldOf_no h]
theorem bad_kind {x : List UInt8} {m : Mg} (h : Told x m) (hk : 9 < m.k) : Bad x := by
  refine ⟨(told_len h).2, fun r => ?_⟩
  rw [told_front h, if_pos hk]
/-- Numbers of a message let go. -/
def aM (n : Int) : Mg := ⟨1, 9, [], [], 0, 0, zF, [], [], [], [], [], false, [], n, 0, 0, [], []⟩
def dM' : Mg := ⟨1, 11, [], [], 0, 0, zF, [], [], [], [], [], false, [], 0, 1, 0, [], []⟩
def fM' : Mg := ⟨1, 10, [], [], 0, 0, zF, [], [], [], [], [], false, [], 0, 0, 0, [], []⟩
def uM' : Mg := ⟨2, 2, [], [], 0, 0, zF, [], [], [], [], [], false, [], 0, 0, 0, [], []⟩
theorem may_of {m : Mg} (h1 : withinB m.id 2147483647 = true) (h2 : kindB m = true) (h3 : onlyM m = m) (h4 : 0 ≤ lenS 12 (msgT m)) : mayM m = true := by
  unfold mayM
  rw [h1, h2, eqB_iff.2 h3, decide_eq_true h4]
  rfl
theorem lens256 : (List.range 256).all (fun n => decide (0 ≤ lenS 12 (msgT (aM n)))) = true := by kernel_rfl
theorem aM_may {n : Int} (h0 : 0 ≤ n) (h1 : n < 256) : mayM (aM n) = true := by
  refine may_of rfl ?_ rfl ?_
  · show withinB n 2147483647 = true
    unfold withinB
    rw [decide_eq_true h0, decide_eq_true (by omega)]; rfl
  · have := List.all_eq_true.1 lens256 n.toNat (by rw [List.mem_range]; omega)
    rw [show ((n.toNat : Nat) : Int) = n by omega] at this
    exact of_decide_eq_true this
theorem dM_may : mayM dM' = true := may_of rfl rfl rfl (of_decide_eq_true (by kernel_rfl))
theorem fM_may : mayM fM' = true := may_of rfl rfl rfl (of_decide_eq_true (by kernel_rfl))
theorem uM_may : mayM uM' = true := may_of rfl rfl rfl (of_decide_eq_true (by kernel_rfl))
theorem told_tlv {s : List UInt8} {m : Mg} (h : Told s m) : (parse 12 (bytesOf s)).2.1 = msgT m := by
  have hp := told_parse h []
  rw [List.append_nil] at hp
  rw [hp]
theorem body_67 (m : Mg) (hk : kindB m = true) : (bodyT m).f0 ≠ 67 := by
  unfold bodyT
  repeat' split
  all_goals first
    | (intro h; simp [entryT, numT] at h; done)
    | (intro h
       have h : doneK m.ofk = 67 := h
       unfold doneK at h
       repeat' (first | omega | split at h))
theorem bad2 : Bad [48, 0] := bad_not (by decide) rfl rfl fun m h => by
  have := told_tlv h
  have e : (parse 12 (bytesOf [48, 0])).2.1 = ⟨48, [], []⟩ := by kernel_rfl
  rw [e] at this
  have := congrArg (fun t : Tlv => t.f2.length) this
  exact absurd this (by simp [msgT])
theorem bad3 : Bad [31] := bad_err (by decide) (by decide) (by decide)
theorem bad4 : Bad [4, 0] := bad_not (by decide) rfl rfl fun m h => by
  have := told_tlv h
  have e : (parse 12 (bytesOf [4, 0])).2.1 = ⟨4, [], []⟩ := by kernel_rfl
  rw [e] at this
  have := congrArg (fun t : Tlv => t.f2.length) this
  exact absurd this (by simp [msgT])
theorem bad5 : Bad [48, 128] := bad_err (by decide) (by decide) (by decide)
theorem bad6 : Bad [48, 5, 2, 1, 1, 67, 0] := bad_not (by decide) rfl rfl fun m h => by
  have h1 := told_tlv h
  have e : (parse 12 (bytesOf [48, 5, 2, 1, 1, 67, 0])).2.1 = ⟨48, [], [⟨2, [1], []⟩, ⟨67, [], []⟩]⟩ := by kernel_rfl
  rw [e] at h1
  have hk : kindB m = true := by
    have := h.1
    unfold mayM at this
    simp only [Bool.and_eq_true] at this
    exact this.1.1.2
  have h2 : (⟨48, [], [⟨2, [1], []⟩, ⟨67, [], []⟩]⟩ : Tlv).f2 = (msgT m).f2 := congrArg Tlv.f2 h1
  have h3 : (⟨67, [], []⟩ : Tlv) = bodyT m := by
    have h2 : [(⟨2, [1], []⟩ : Tlv), ⟨67, [], []⟩] = [numT 2 m.id, bodyT m] := h2
    injection h2 with _ h2
    injection h2 with h2 _
  exact body_67 m hk (by rw [← h3])
section
variable {call : Oracle} {lp : Loops} (hW : Fix Try.prog hs call lp)
include hW
theorem put_of {m : Mg} (h : mayM m = true) (hs : sG m ≤ 100000000) : ∃ s, brookref19_PutMsg.f call (tupM m) = some (s, ()) ∧ Told s m := by
  refine ⟨strOfNums (enc (msgT m)), ?_, h, rfl⟩
  rw [PutMsg_eq hW m hs, if_pos h]
theorem ConnOver_row (hA : brooklaw20_awake.f call = some (true, ())) (l : List Int) (hl : bytesI l) (f : List Int) (hf : bytesI f) (n : Int) (hn : IntKind.u8.min ≤ n ∧ n ≤ IntKind.u8.max) : brooklaw20_ConnOver.f call (rowI l) (rowI f) n = some (true, ()) := by
  have hn0 : 0 ≤ n := hn.1
  have hn1 : n ≤ 255 := hn.2
  rw [brooklaw20_ConnOver.eq hW]
  by_cases h1 : (6 : Int) < ((rowI f).length : Int)
  · rw [decide_eq_true h1, cond_true, hA]; rfl
  rw [decide_eq_false h1, cond_false, w64 (x := n) (by omega) (by omega)]
  have small : ∀ m : Mg, m.dn = [] → m.val = [] → m.flt = zF → m.types = [] → m.mods = [] → m.edn = [] → m.attrs = [] → m.rdn = [] → m.typ = [] → m.text = [] → m.refs = [] → sG m ≤ 100000000 := by
    intro m e1 e2 e3 e4 e5 e6 e7 e8 e9 e10 e11
    unfold sG
    rw [e1, e2, e3, e4, e5, e6, e7, e8, e9, e10, e11]
    simp [zF, sF, sFs, sS, sMs, sAs]
  obtain ⟨g, p1, t1⟩ := put_of hW (aM_may hn0 (by omega)) (small _ rfl rfl rfl rfl rfl rfl rfl rfl rfl rfl rfl)
  obtain ⟨x0, p2, t2⟩ := put_of hW dM_may (small _ rfl rfl rfl rfl rfl rfl rfl rfl rfl rfl rfl)
  obtain ⟨x1, p3, t3⟩ := put_of hW fM_may (small _ rfl rfl rfl rfl rfl rfl rfl rfl rfl rfl rfl)
  obtain ⟨u, p4, t4⟩ := put_of hW uM_may (small _ rfl rfl rfl rfl rfl rfl rfl rfl rfl rfl rfl)
  have p1 : brookref19_PutMsg.f call (1, 9, [], [], 0, 0, 0, [], [], [], [], [], [], [], [], [], false, [], n, 0, 0, [], [], ()) = some (g, ()) := p1
  have p2 : brookref19_PutMsg.f call (1, 11, [], [], 0, 0, 0, [], [], [], [], [], [], [], [], [], false, [], 0, 1, 0, [], [], ()) = some (x0, ()) := p2
  have p3 : brookref19_PutMsg.f call (1, 10, [], [], 0, 0, 0, [], [], [], [], [], [], [], [], [], false, [], 0, 0, 0, [], [], ()) = some (x1, ()) := p3
  have p4 : brookref19_PutMsg.f call (2, 2, [], [], 0, 0, 0, [], [], [], [], [], [], [], [], [], false, [], 0, 0, 0, [], [], ()) = some (u, ()) := p4
  have lg := (told_len t1).2; have l0 := (told_len t2).2; have l1 := (told_len t3).2; have lu := (told_len t4).2
  refine (fun h : Yes _ (fun r => r = (true, ())) => by obtain ⟨r, e, rfl⟩ := h; exact e) ?_
  rw [p1, p2, p3, p4]
  simp only [Option.bind_some]
  rw [cat_eq (s := g) (t := g) (by omega), cat_eq (s := g) (t := u) (by omega)]
  simp only [Option.bind_some]
  rw [cat_eq (s := g ++ u) (t := g) (by rw [List.length_append]; omega)]
  simp only [Option.bind_some]
  refine Yes.bind (P := fun _ => True) ⟨(), rfl, trivial⟩ fun _ _ => ?_
  refine yes_row (p := fun e => ∃ x, e = [D.str x] ∧ Bad x) ?_ (tmr (c := 7) hn0 (by decide)) fun e he => ?_
  · exact .cons ⟨_, rfl, bad_kind t2 (by decide)⟩ (.cons ⟨_, rfl, bad_kind t3 (by decide)⟩ (.cons ⟨_, rfl, bad2⟩ (.cons ⟨_, rfl, bad3⟩ (.cons ⟨_, rfl, bad4⟩ (.cons ⟨_, rfl, bad5⟩ (.cons ⟨_, rfl, bad6⟩ .nil))))))
  obtain ⟨x, rfl, hx1, hx2⟩ := he
  rw [show decs [.str] (sub [D.str x] 0 1) = some (x, ()) from rfl]
  simp only [Option.bind_some]
  rw [cat_eq (s := g ++ g) (t := x) (by rw [List.length_append]; omega)]
  simp only [Option.bind_some]
  rw [cat_eq (s := g ++ g ++ x) (t := g) (by rw [List.length_append, List.length_append]; omega)]
  simp only [Option.bind_some]
  have f1 : fed ([] ++ (g ++ g ++ x ++ g)) = ([aM n, aM n], [], 1) := by
    rw [List.nil_append, List.append_assoc, List.append_assoc, told_front t1, told_front t1, hx2]
    simp [aM]
  have f2 : fed ([] ++ (g ++ u ++ g)) = ([aM n, uM'], [], 2) := by
    rw [List.nil_append, List.append_assoc, told_front t1, told_front t4]
    simp [aM, uM']
  have c1 : conn_Feed.f call ([119], [], false, ()) (g ++ g ++ x ++ g) = some ((([119], [], true, ()), dGs [aM n, aM n], ()), ()) := by
    rw [Feed_eq hW [119] [] (g ++ g ++ x ++ g) (by simp only [List.length_append, List.length_nil]; omega), f1]; rfl
  have c2 : conn_Feed.f call ([119], [], true, ()) g = some ((([119], [], true, ()), [], ()), ()) := Feed_over hW _ _ _
  have c3 : conn_Feed.f call ([], [], false, ()) (g ++ u ++ g) = some ((([], [], false, ()), dGs [aM n, uM'], ()), ()) := by
    rw [Feed_eq hW [] [] (g ++ u ++ g) (by simp only [List.length_append, List.length_nil]; omega), f2]; rfl
  rw [c1]
  simp only [Option.bind_some]
  rw [c2]
  simp only [Option.bind_some]
  rw [c3]
  have i1 : ix 23 (dGs [aM n, aM n]) 1 = some (dMg (aM n)) := ix_msg [aM n, aM n] 1 (by simp)
  have i2 : ix 23 (dGs [aM n, uM']) 1 = some (dMg uM') := ix_msg [aM n, uM'] 1 (by simp)
  have d1 : decs [.int .i64] (sub (dMg (aM n)) 18 1) = some (n, ()) := rfl
  have d2 : decs [.int .i64] (sub (dMg uM') 1 1) = some (2, ()) := rfl
  refine ⟨_, ?_, rfl⟩
  simp only [Option.bind_some, i1, i2, d1, d2, dGs_len, List.length_cons, List.length_nil, decide_true, cond_true, hA]
  rfl
end
end Go.Proofs.Ytejgmifipdcneaa.B
