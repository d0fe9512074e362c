/- The law FnExactJournalOf, walked. -/
import Derived.Test.YtgbciimfpahekaaDoorShp
import Derived.Test.YtgbciimfpahekaaDoorStx
import Derived.Test.YtgbciimfpahekaaDoorJnJ
namespace Go.Proofs.YtgbciimfpahekaaDoor
open Go.RowKit

set_option maxRecDepth 100000 in
set_option maxHeartbeats 4000000 in
theorem walkJournalOf (W : World) (Als : Option Addr) (cls : Nat) (ls : List ByteArray) (hAls : RdA W Als (strs ls)) (hnls : ls.length ≤ maxLen) (hsls : ∀ r ∈ ls, r.size ≤ maxLen) (hT : TabOk W) :
    Calls Tryd.prog 3 #[.slice Als ls.length cls] W fun e w' => e = .returned (.bool true) ∧ Below W.heap.size W w' := by
  have SZls := Lib.hid (fun (l0 : Nat) (hl : l0 ≤ 1048576) V (hb : Below W.heap.size W V) => strsSz_any Als cls ls l0 hl V (hAls.ext hb) hnls hsls)
  have TOls := Lib.hid (fun V (hb : Below W.heap.size W V) (hm : strsSmall ls) => strsTo_any Als cls ls V (hAls.ext hb) hm)
  have EXls := Lib.hid (fun (A B : Option Addr) (c d : Nat) V (h1 : Rd V A (strs ls)) (h2 : Rd V B (strs ls)) (hm : strsSmall ls) => strsEq_any A B c d ls V h1 h2 (by have := hm.1; omega))
  have HT := Lib.hid (fun V (hb : Below W.heap.size W V) => hT.ext hb)
  clear hT
  have IM := Lib.hid (fun (A_ls : Option Addr) (c_ls : Nat) V (h_ls : Rd V A_ls (strs ls)) (m_ls : strsSmall ls) (hT : TabOk V) => journalOf_any A_ls c_ls ls V h_ls m_ls.1 (fun r hr => by have := m_ls.2 r hr; omega) hT)
  have SP := Lib.hid (fun (A_ls : Option Addr) (c_ls : Nat) V (h_ls : Rd V A_ls (strs ls)) (m_ls : strsSmall ls) => journalOfS_any A_ls c_ls ls V h_ls m_ls.1 (fun r hr => by have := m_ls.2 r hr; omega))
  clear hAls hnls hsls
  generalize (jV ls) = R0 at *
  generalize (jOk ls) = R1 at *
  generalize ls.length = n_ls at *
  have B1 : Below W.heap.size W W := Ext.refl _
  go_enter Tryd.func3, Tryd.ntmps3
  go_wp2_with fail
  refine (SZls.out 1048576 (by omega) _ B1).mono ?_
  rintro e w1 ⟨⟨r1, rfl, hr1⟩, hb⟩
  replace B1 := Ext.then_ B1 hb
  clear hb
  by_cases h0 : r1 < 0
  · clear hr1
    go_wp2_with fail
    go_ret
    exact ⟨rfl, B1⟩
  have Mls : Hid (strsSmall ls) := by
    rcases hr1 with h | h
    · exact absurd h h0
    · exact h
  clear SZls hr1
  go_wp2_with fail
  have zW2 := B1.size
  refine (TOls.out _ B1 Mls.out).mono ?_
  rintro e w2 ⟨A2, c2, rfl, x2, hb⟩
  have z2 := hb.size
  replace B1 := Ext.then_ B1 hb
  clear hb
  go_wp2_with fail
  refine (SP.out _ _ _ x2.rd Mls.out).mono ?_
  rintro e w3 ⟨rfl, hb⟩
  have z3 := hb.size
  replace B1 := Ext.then_ B1 hb
  replace x2 := x2.ext hb
  clear hb
  clear x2
  go_wp2_with fail
  have zW4 := B1.size
  refine (TOls.out _ B1 Mls.out).mono ?_
  rintro e w4 ⟨A4, c4, rfl, x4, hb⟩
  have z4 := hb.size
  replace B1 := Ext.then_ B1 hb
  clear hb
  go_wp2_with fail
  refine (IM.out _ _ _ x4.rd Mls.out (HT.out _ B1)).mono ?_
  rintro e w5 ⟨rfl, hb⟩
  have z5 := hb.size
  replace B1 := Ext.then_ B1 hb
  replace x4 := x4.ext hb
  clear hb
  have q1 : (R1 != R1) = false := by simp
  go_wp2_with fail
  have zW6 := B1.size
  refine (TOls.out _ B1 Mls.out).mono ?_
  rintro e w6 ⟨A6, c6, rfl, x6, hb⟩
  have z6 := hb.size
  replace B1 := Ext.then_ B1 hb
  replace x4 := x4.ext hb
  clear hb
  go_wp2_with fail
  refine (EXls.out _ _ _ _ _ x4.rd x6.rd Mls.out).mono ?_
  rintro e w7 ⟨rfl, hb⟩
  have z7 := hb.size
  replace B1 := Ext.then_ B1 hb
  replace x4 := x4.ext hb
  replace x6 := x6.ext hb
  clear hb
  clear x6
  go_wp2_with fail
  go_ret
  exact ⟨rfl, B1⟩
end Go.Proofs.YtgbciimfpahekaaDoor
