/- The law FnExactWayAlong, walked. -/
import Derived.Test.YtbkgmegpgnmlpaaShp
import Derived.Test.YtbkgmegpgnmlpaaShr
namespace Go.Proofs.Ytbkgmegpgnmlpaa
open Go.RowKit

set_option maxRecDepth 100000 in
set_option maxHeartbeats 4000000 in
theorem walkWayAlong (W : World) (cv : Int) (od : Int) (Asp : Option Addr) (csp : Nat) (sp : List (Int × Int)) (hAsp : SpRdA W Asp sp) (hnsp : sp.length ≤ maxLen) :
    Calls Try.prog 10 #[.int .i64 cv, .int .i64 od, .slice Asp sp.length csp] W fun e w' => e = .returned (.bool true) ∧ Below W.heap.size W w' := by
  have SZsp := Lib.hid (fun (l0 : Nat) (hl : l0 ≤ 1048576) V (hb : Below W.heap.size W V) => spotsSz_any Asp csp sp l0 hl V (hAsp.ext hb) hnsp)
  have TOsp := Lib.hid (fun V (hb : Below W.heap.size W V) (hm : spotsSmall sp) => spotsTo_any Asp csp sp V (hAsp.ext hb) hm)
  have EXsp := Lib.hid (fun (A B : Option Addr) (c d : Nat) V (h1 : SpS V A sp) (h2 : SpS V B sp) (hm : spotsSmall sp) => eqSpots_any A B c d sp V h1.weak h2.weak (by unfold spotsSmall at hm; omega))
  have IM := Lib.hid (fun (A_sp : Option Addr) (c_sp : Nat) V (h_sp : SpS V A_sp sp) (m_sp : spotsSmall sp) => wayAlong_sp cv od A_sp c_sp sp V h_sp m_sp)
  have SP := Lib.hid (fun (A_sp : Option Addr) (c_sp : Nat) V (h_sp : SpS V A_sp sp) (m_sp : spotsSmall sp) => wayAlongS_sp cv od A_sp c_sp sp V h_sp m_sp)
  clear hAsp hnsp
  generalize (wayA cv od sp) = R0 at *
  generalize (sokB cv od sp) = R1 at *
  generalize sp.length = n_sp at *
  have B1 : Below W.heap.size W W := Ext.refl _
  go_enter Try.func10, Try.ntmps10
  go_wp2_with fail
  refine (SZsp.out 1048576 (by omega) _ B1).mono ?_
  rintro e w1 ⟨⟨r1, rfl, hr1⟩, hb⟩
  replace B1 := Ext.then_ B1 hb
  clear hb
  by_cases h0 : r1 < 0
  · clear hr1
    go_wp2_with fail
    go_ret
    exact ⟨rfl, B1⟩
  have Msp : Hid (spotsSmall sp) := by
    rcases hr1 with h | h
    · exact absurd h h0
    · exact h
  clear SZsp hr1
  go_wp2_with fail
  have zW2 := B1.size
  refine (TOsp.out _ B1 Msp.out).mono ?_
  rintro e w2 ⟨A2, c2, rfl, x2, hb⟩
  have z2 := hb.size
  replace B1 := Ext.then_ B1 hb
  clear hb
  go_wp2_with fail
  refine (SP.out _ _ _ x2.rd Msp.out).mono ?_
  rintro e w3 ⟨rfl, hb⟩
  have z3 := hb.size
  replace B1 := Ext.then_ B1 hb
  replace x2 := x2.ext hb
  clear hb
  clear x2
  go_wp2_with fail
  have zW4 := B1.size
  refine (TOsp.out _ B1 Msp.out).mono ?_
  rintro e w4 ⟨A4, c4, rfl, x4, hb⟩
  have z4 := hb.size
  replace B1 := Ext.then_ B1 hb
  clear hb
  go_wp2_with fail
  refine (IM.out _ _ _ x4.rd Msp.out).mono ?_
  rintro e w5 ⟨rfl, hb⟩
  have z5 := hb.size
  replace B1 := Ext.then_ B1 hb
  replace x4 := x4.ext hb
  clear hb
  have q0 : (R0 != R0) = false := by simp
  have q1 : (R1 != R1) = false := by simp
  go_wp2_with fail
  have zW6 := B1.size
  refine (TOsp.out _ B1 Msp.out).mono ?_
  rintro e w6 ⟨A6, c6, rfl, x6, hb⟩
  have z6 := hb.size
  replace B1 := Ext.then_ B1 hb
  replace x4 := x4.ext hb
  clear hb
  go_wp2_with fail
  refine (EXsp.out _ _ _ _ _ x4.rd x6.rd Msp.out).mono ?_
  rintro e w7 ⟨rfl, hb⟩
  have z7 := hb.size
  replace B1 := Ext.then_ B1 hb
  replace x4 := x4.ext hb
  replace x6 := x6.ext hb
  clear hb
  clear x6
  go_wp2_with fail
  go_ret
  exact ⟨rfl, B1⟩
end Go.Proofs.Ytbkgmegpgnmlpaa
