/- Closed calls, by the evaluator: names taken apart and told, types in their form. Conditions: none. -/
import Derived.Test.YtcpidokhkcmdfaaGreatMf
import Derived.Test.YtcpidokhkcmdfaaGreatRw
namespace Go.Proofs.YtcpidokhkcmdfaaGreat.B
open Go Go.Proofs Go.Proofs.YtcpidokhkcmdfaaGreat.I
set_option linter.unusedVariables false
set_option maxRecDepth 100000
noncomputable abbrev oraB : Oracle := callW Tryz.prog I.hs
theorem call_eval {P : Program} {hs : Hints} (n : Nat) {f : Nat} {sh : CSh} {h : Hint} {args : List V} {objs : List O} {t : sh.T} (e : callT (I.runN P hs n).1 sh f h args objs = some t) : callT (callW P hs) sh f h args objs = some t := by
  unfold callT at e
  obtain ⟨r, h1, h2⟩ := Option.bind_eq_some_iff.1 e
  exact callT_of n h1 h2
theorem parse0 : brookref1_ParseDn.f oraB [111, 61, 120] = some (([[D.str [111], D.str [120]]], true, ()), ()) := call_eval 100 (by kernel_rfl)
theorem text0 : brookref1_TextDn.f oraB [[D.str [111], D.str [120]]] = some ([111, 61, 120], ()) := call_eval 100 (by kernel_rfl)
theorem parse1 : brookref1_ParseDn.f oraB [111, 117, 61, 97, 44, 111, 61, 120] = some (([[D.str [111, 117], D.str [97]], [D.str [111], D.str [120]]], true, ()), ()) := call_eval 100 (by kernel_rfl)
theorem text1 : brookref1_TextDn.f oraB [[D.str [111, 117], D.str [97]], [D.str [111], D.str [120]]] = some ([111, 117, 61, 97, 44, 111, 61, 120], ()) := call_eval 100 (by kernel_rfl)
theorem parse2 : brookref1_ParseDn.f oraB [111, 117, 61, 98, 44, 111, 61, 120] = some (([[D.str [111, 117], D.str [98]], [D.str [111], D.str [120]]], true, ()), ()) := call_eval 100 (by kernel_rfl)
theorem text2 : brookref1_TextDn.f oraB [[D.str [111, 117], D.str [98]], [D.str [111], D.str [120]]] = some ([111, 117, 61, 98, 44, 111, 61, 120], ()) := call_eval 100 (by kernel_rfl)
theorem parse3 : brookref1_ParseDn.f oraB [99, 110, 61, 110, 48, 44, 111, 117, 61, 97, 44, 111, 61, 120] = some (([[D.str [99, 110], D.str [110, 48]], [D.str [111, 117], D.str [97]], [D.str [111], D.str [120]]], true, ()), ()) := call_eval 100 (by kernel_rfl)
theorem text3 : brookref1_TextDn.f oraB [[D.str [99, 110], D.str [110, 48]], [D.str [111, 117], D.str [97]], [D.str [111], D.str [120]]] = some ([99, 110, 61, 110, 48, 44, 111, 117, 61, 97, 44, 111, 61, 120], ()) := call_eval 100 (by kernel_rfl)
theorem parse4 : brookref1_ParseDn.f oraB [99, 110, 61, 110, 49, 44, 111, 117, 61, 97, 44, 111, 61, 120] = some (([[D.str [99, 110], D.str [110, 49]], [D.str [111, 117], D.str [97]], [D.str [111], D.str [120]]], true, ()), ()) := call_eval 100 (by kernel_rfl)
theorem text4 : brookref1_TextDn.f oraB [[D.str [99, 110], D.str [110, 49]], [D.str [111, 117], D.str [97]], [D.str [111], D.str [120]]] = some ([99, 110, 61, 110, 49, 44, 111, 117, 61, 97, 44, 111, 61, 120], ()) := call_eval 100 (by kernel_rfl)
theorem parse5 : brookref1_ParseDn.f oraB [99, 110, 61, 110, 50, 44, 111, 117, 61, 98, 44, 111, 61, 120] = some (([[D.str [99, 110], D.str [110, 50]], [D.str [111, 117], D.str [98]], [D.str [111], D.str [120]]], true, ()), ()) := call_eval 100 (by kernel_rfl)
theorem text5 : brookref1_TextDn.f oraB [[D.str [99, 110], D.str [110, 50]], [D.str [111, 117], D.str [98]], [D.str [111], D.str [120]]] = some ([99, 110, 61, 110, 50, 44, 111, 117, 61, 98, 44, 111, 61, 120], ()) := call_eval 100 (by kernel_rfl)
theorem parse6 : brookref1_ParseDn.f oraB [99, 110, 61, 110, 51, 44, 111, 61, 120] = some (([[D.str [99, 110], D.str [110, 51]], [D.str [111], D.str [120]]], true, ()), ()) := call_eval 100 (by kernel_rfl)
theorem text6 : brookref1_TextDn.f oraB [[D.str [99, 110], D.str [110, 51]], [D.str [111], D.str [120]]] = some ([99, 110, 61, 110, 51, 44, 111, 61, 120], ()) := call_eval 100 (by kernel_rfl)
theorem parse7 : brookref1_ParseDn.f oraB [99, 110, 61, 110, 52] = some (([[D.str [99, 110], D.str [110, 52]]], true, ()), ()) := call_eval 100 (by kernel_rfl)
theorem text7 : brookref1_TextDn.f oraB [[D.str [99, 110], D.str [110, 52]]] = some ([99, 110, 61, 110, 52], ()) := call_eval 100 (by kernel_rfl)
theorem parse8 : brookref1_ParseDn.f oraB [111, 117, 61, 99, 44, 111, 117, 61, 97, 44, 111, 61, 120] = some (([[D.str [111, 117], D.str [99]], [D.str [111, 117], D.str [97]], [D.str [111], D.str [120]]], true, ()), ()) := call_eval 100 (by kernel_rfl)
theorem text8 : brookref1_TextDn.f oraB [[D.str [111, 117], D.str [99]], [D.str [111, 117], D.str [97]], [D.str [111], D.str [120]]] = some ([111, 117, 61, 99, 44, 111, 117, 61, 97, 44, 111, 61, 120], ()) := call_eval 100 (by kernel_rfl)
theorem parse9 : brookref1_ParseDn.f oraB [99, 110, 61, 110, 53, 44, 111, 117, 61, 99, 44, 111, 117, 61, 97, 44, 111, 61, 120] = some (([[D.str [99, 110], D.str [110, 53]], [D.str [111, 117], D.str [99]], [D.str [111, 117], D.str [97]], [D.str [111], D.str [120]]], true, ()), ()) := call_eval 100 (by kernel_rfl)
theorem text9 : brookref1_TextDn.f oraB [[D.str [99, 110], D.str [110, 53]], [D.str [111, 117], D.str [99]], [D.str [111, 117], D.str [97]], [D.str [111], D.str [120]]] = some ([99, 110, 61, 110, 53, 44, 111, 117, 61, 99, 44, 111, 117, 61, 97, 44, 111, 61, 120], ()) := call_eval 100 (by kernel_rfl)
theorem parse10 : brookref1_ParseDn.f oraB [111, 61, 121] = some (([[D.str [111], D.str [121]]], true, ()), ()) := call_eval 100 (by kernel_rfl)
theorem text10 : brookref1_TextDn.f oraB [[D.str [111], D.str [121]]] = some ([111, 61, 121], ()) := call_eval 100 (by kernel_rfl)
theorem parse11 : brookref1_ParseDn.f oraB [99, 110, 61, 110, 48, 44, 111, 61, 121] = some (([[D.str [99, 110], D.str [110, 48]], [D.str [111], D.str [121]]], true, ()), ()) := call_eval 100 (by kernel_rfl)
theorem text11 : brookref1_TextDn.f oraB [[D.str [99, 110], D.str [110, 48]], [D.str [111], D.str [121]]] = some ([99, 110, 61, 110, 48, 44, 111, 61, 121], ()) := call_eval 100 (by kernel_rfl)
theorem canon0 : brookref1_Canon.f oraB [111] = some (([111], true, ()), ()) := call_eval 100 (by kernel_rfl)
theorem canon1 : brookref1_Canon.f oraB [111, 117] = some (([111, 117], true, ()), ()) := call_eval 100 (by kernel_rfl)
theorem canon2 : brookref1_Canon.f oraB [99, 110] = some (([99, 110], true, ()), ()) := call_eval 100 (by kernel_rfl)
theorem canon3 : brookref1_Canon.f oraB [111, 98, 106, 101, 99, 116, 99, 108, 97, 115, 115] = some (([111, 98, 106, 101, 99, 116, 99, 108, 97, 115, 115], true, ()), ()) := call_eval 100 (by kernel_rfl)
theorem canon4 : brookref1_Canon.f oraB [100, 101, 115, 99, 114, 105, 112, 116, 105, 111, 110] = some (([100, 101, 115, 99, 114, 105, 112, 116, 105, 111, 110], true, ()), ()) := call_eval 100 (by kernel_rfl)
theorem canon5 : brookref1_Canon.f oraB [115, 110] = some (([115, 110], true, ()), ()) := call_eval 100 (by kernel_rfl)
theorem canon6 : brookref1_Canon.f oraB [117, 115, 101, 114, 112, 97, 115, 115, 119, 111, 114, 100] = some (([117, 115, 101, 114, 112, 97, 115, 115, 119, 111, 114, 100], true, ()), ()) := call_eval 100 (by kernel_rfl)
theorem all_nil {α : Type} {p : α → Prop} : ∀ x ∈ ([] : List α), p x := fun _ h => by cases h
theorem all_cons {α : Type} {p : α → Prop} {a : α} {l : List α} (h : p a) (t : ∀ x ∈ l, p x) : ∀ x ∈ a :: l, p x := fun x hx => by
  rcases List.mem_cons.1 hx with rfl | hx
  · exact h
  · exact t x hx
theorem facts : Facts oraB where
  dn := all_cons ⟨_, [111], [120], parse0, rfl, by decide, by decide, _, text0, by decide⟩ <| 
    all_cons ⟨_, [111, 117], [97], parse1, rfl, by decide, by decide, _, text1, by decide⟩ <| 
    all_cons ⟨_, [111, 117], [98], parse2, rfl, by decide, by decide, _, text2, by decide⟩ <| 
    all_cons ⟨_, [99, 110], [110, 48], parse3, rfl, by decide, by decide, _, text3, by decide⟩ <| 
    all_cons ⟨_, [99, 110], [110, 49], parse4, rfl, by decide, by decide, _, text4, by decide⟩ <| 
    all_cons ⟨_, [99, 110], [110, 50], parse5, rfl, by decide, by decide, _, text5, by decide⟩ <| 
    all_cons ⟨_, [99, 110], [110, 51], parse6, rfl, by decide, by decide, _, text6, by decide⟩ <| 
    all_cons ⟨_, [99, 110], [110, 52], parse7, rfl, by decide, by decide, _, text7, by decide⟩ <| 
    all_cons ⟨_, [111, 117], [99], parse8, rfl, by decide, by decide, _, text8, by decide⟩ <| 
    all_cons ⟨_, [99, 110], [110, 53], parse9, rfl, by decide, by decide, _, text9, by decide⟩ <| 
    all_cons ⟨_, [111], [121], parse10, rfl, by decide, by decide, _, text10, by decide⟩ <| 
    all_cons ⟨_, [99, 110], [110, 48], parse11, rfl, by decide, by decide, _, text11, by decide⟩ <| 
    all_nil
  canon := all_cons ⟨_, _, canon0, by decide⟩ <| all_cons ⟨_, _, canon1, by decide⟩ <| all_cons ⟨_, _, canon2, by decide⟩ <| all_cons ⟨_, _, canon3, by decide⟩ <| all_cons ⟨_, _, canon4, by decide⟩ <| all_cons ⟨_, _, canon5, by decide⟩ <| all_cons ⟨_, _, canon6, by decide⟩ <| all_nil
end Go.Proofs.YtcpidokhkcmdfaaGreat.B
