/- The law FnExactSortAlong, walked. -/
import Derived.Test.YtbkgmegpgnmlpaaShp
import Derived.Test.YtbkgmegpgnmlpaaShr
namespace Go.Proofs.Ytbkgmegpgnmlpaa
open Go.RowKit

set_option maxRecDepth 100000 in
set_option maxHeartbeats 4000000 in
theorem walkSortAlong (W : World) (cv : Int) (od : Int) (Asp : Option Addr) (csp : Nat) (sp : List (Int × Int)) (hAsp : SpRdA W Asp sp) (hnsp : sp.length ≤ maxLen) :
    Calls Try.prog 9 #[.int .i64 cv, .int .i64 od, .slice Asp sp.length csp] W fun e w' => e = .returned (.bool true) ∧ Below W.heap.size W w' := by
  have SZsp := Lib.hid (fun (l0 : Nat) (hl : l0 ≤ 1048576) V (hb : Below W.heap.size W V) => spotsSz_any Asp csp sp l0 hl V (hAsp.ext hb) hnsp)
  have TOsp := Lib.hid (fun V (hb : Below W.heap.size W V) (hm : spotsSmall sp) => spotsTo_any Asp csp sp V (hAsp.ext hb) hm)
  have EXsp := Lib.hid (fun (A B : Option Addr) (c d : Nat) V (h1 : SpS V A sp) (h2 : SpS V B sp) (hm : spotsSmall sp) => eqSpots_any A B c d sp V h1.weak h2.weak (by unfold spotsSmall at hm; omega))
  have MXsp := Lib.hid (fun (lo hi : Nat) (A : Option Addr) (c : Nat) (k0 : Nat) (h0 : 0 < k0) (hk : k0 ≤ 2000000) V (h1 : SpOS V lo hi A c sp) (hm : spotsSmall sp) => spotsMark_any lo hi A c sp k0 V h1 (by unfold spotsSmall at hm; omega) (by omega))
  have IM := Lib.hid (fun (A_sp : Option Addr) (c_sp : Nat) V (h_sp : SpS V A_sp sp) (m_sp : spotsSmall sp) => sortAlong_sp cv od A_sp c_sp sp V h_sp m_sp)
  have SP := Lib.hid (fun (A_sp : Option Addr) (c_sp : Nat) V (h_sp : SpS V A_sp sp) (m_sp : spotsSmall sp) => sortAlongS_sp cv od A_sp c_sp sp V h_sp m_sp)
  have hR0 : Hid ((srtV cv od sp).length ≤ 524288) := by
    exact Nat.le_trans (srtV_le cv od sp) (by decide)

  clear hAsp hnsp
  generalize (srtV cv od sp) = R0 at *
  generalize (sokB cv od sp) = R1 at *
  have ER0 := Lib.hid (fun (A B : Option Addr) (c d : Nat) V (h1 : SpRd V A R0) (h2 : SpRd V B R0) => eqSpots_any A B c d R0 V h1 h2 (by have := hR0.out; omega))
  have MR0 := Lib.hid (fun (lo hi : Nat) (A : Option Addr) (c : Nat) V (h1 : SpO V lo hi A c R0) => markSpots_any lo hi A c R0 1 V h1 (by have := hR0.out; omega) (by omega))
  have HR0 := Lib.hid (fun (A : Option Addr) (c : Nat) V (h1 : SpRd V A (mkSp 1 R0.length)) => heldSpots_any A c R0.length 1 V h1 (by have := hR0.out; omega) (by omega))
  generalize mkSp 1 R0.length = K0 at *
  have hC0 : Hid (2 * R0.length ≤ 1048576) := by have := hR0.out; show 2 * _ ≤ _; omega
  clear hR0
  generalize 2 * R0.length = m0 at *
  generalize R0.length = n_R0 at *
  generalize sp.length = n_sp at *
  have B1 : Below W.heap.size W W := Ext.refl _
  go_enter Try.func9, Try.ntmps9
  go_wp2_with fail
  refine (SZsp.out 1048576 (by omega) _ B1).mono ?_
  rintro e w1 ⟨⟨r1, rfl, hr1⟩, hb⟩
  replace B1 := Ext.then_ B1 hb
  clear hb
  by_cases h0 : r1 < 0
  · clear hr1
    go_wp2_with fail
    go_ret
    exact ⟨rfl, B1⟩
  have Msp : Hid (spotsSmall sp) := by
    rcases hr1 with h | h
    · exact absurd h h0
    · exact h
  clear SZsp hr1
  go_wp2_with fail
  have zW2 := B1.size
  refine (TOsp.out _ B1 Msp.out).mono ?_
  rintro e w2 ⟨A2, c2, rfl, x2, hb⟩
  have z2 := hb.size
  replace B1 := Ext.then_ B1 hb
  clear hb
  go_wp2_with fail
  refine (SP.out _ _ _ x2.rd Msp.out).mono ?_
  rintro e w3 ⟨A3_0, c3_0, rfl, o3_0, hb⟩
  have z3 := hb.size
  replace B1 := Ext.then_ B1 hb
  replace x2 := x2.ext hb
  clear hb
  clear x2
  go_wp2_with fail
  have zW4 := B1.size
  refine (TOsp.out _ B1 Msp.out).mono ?_
  rintro e w4 ⟨A4, c4, rfl, x4, hb⟩
  have z4 := hb.size
  replace B1 := Ext.then_ B1 hb
  replace o3_0 := o3_0.ext hb
  clear hb
  go_wp2_with fail
  refine (IM.out _ _ _ x4.rd Msp.out).mono ?_
  rintro e w5 ⟨A5_0, c5_0, rfl, o5_0, hb⟩
  have z5 := hb.size
  replace B1 := Ext.then_ B1 hb
  replace o3_0 := o3_0.ext hb
  replace x4 := x4.ext hb
  clear hb
  have q1 : (R1 != R1) = false := by simp
  go_wp2_with fail
  refine (ER0.out _ _ _ _ _ o5_0.rd o3_0.rd).mono ?_
  rintro e w6 ⟨rfl, hb⟩
  have z6 := hb.size
  replace B1 := Ext.then_ B1 hb
  replace o3_0 := o3_0.ext hb
  replace x4 := x4.ext hb
  replace o5_0 := o5_0.ext hb
  clear hb
  go_wp2_with fail
  have zW7 := B1.size
  refine (TOsp.out _ B1 Msp.out).mono ?_
  rintro e w7 ⟨A7, c7, rfl, x7, hb⟩
  have z7 := hb.size
  replace B1 := Ext.then_ B1 hb
  replace o3_0 := o3_0.ext hb
  replace x4 := x4.ext hb
  replace o5_0 := o5_0.ext hb
  clear hb
  go_wp2_with fail
  refine (EXsp.out _ _ _ _ _ x4.rd x7.rd Msp.out).mono ?_
  rintro e w8 ⟨rfl, hb⟩
  have z8 := hb.size
  replace B1 := Ext.then_ B1 hb
  replace o3_0 := o3_0.ext hb
  replace x4 := x4.ext hb
  replace o5_0 := o5_0.ext hb
  replace x7 := x7.ext hb
  clear hb
  clear x7
  go_wp2_with fail
  refine (MXsp.out _ _ _ _ (1) (by omega) (by omega) _ x4 Msp.out).mono ?_
  rintro e w9 ⟨rfl, x4', ch⟩
  replace B1 := B1.trans (ch.below (fun k hk => by have := hk.1; have := B1.size; omega) B1.size)
  replace o3_0 := o3_0.keep ch (fun b h1 h2 h => by have := h.1; have := h.2; omega)
  replace o5_0 := o5_0.keep ch (fun b h1 h2 h => by have := h.1; have := h.2; omega)
  have z9 := ch.size
  clear ch x4'
  clear x4
  have p0 : ¬ ((1 + 2 * n_sp : Nat) : Int) < 0 := by omega
  go_wp2_with fail
  refine (ER0.out _ _ _ _ _ o5_0.rd o3_0.rd).mono ?_
  rintro e w10 ⟨rfl, hb⟩
  have z10 := hb.size
  replace B1 := Ext.then_ B1 hb
  replace o3_0 := o3_0.ext hb
  replace o5_0 := o5_0.ext hb
  clear hb
  clear p0
  go_wp2_with fail
  refine (MR0.out _ _ _ _ _ o5_0).mono ?_
  rintro e w11 ⟨rfl, om, ch⟩
  replace B1 := B1.trans (ch.below (fun k hk => by have := hk.1; have := B1.size; omega) B1.size)
  replace o3_0 := o3_0.keep ch (fun b h1 h2 h => by have := h.1; have := h.2; omega)
  have z11 := ch.size
  clear ch
  clear o5_0
  go_wp2_with fail
  refine (HR0.out _ _ _ om.rd).mono ?_
  rintro e w12 ⟨rfl, hb⟩
  have z12 := hb.size
  replace B1 := Ext.then_ B1 hb
  replace o3_0 := o3_0.ext hb
  replace om := om.ext hb
  clear hb
  have p0 : ¬ ((1 + m0 : Nat) : Int) < 0 := by omega
  have p1 : (((1 + m0 : Nat) : Int) != ((1 + m0 : Nat) : Int)) = false := by simp
  go_wp2_with fail
  have zW13 := B1.size
  refine (TOsp.out _ B1 Msp.out).mono ?_
  rintro e w13 ⟨A13, c13, rfl, x13, hb⟩
  have z13 := hb.size
  replace B1 := Ext.then_ B1 hb
  replace o3_0 := o3_0.ext hb
  replace om := om.ext hb
  clear hb
  go_wp2_with fail
  refine (IM.out _ _ _ x13.rd Msp.out).mono ?_
  rintro e w14 ⟨A14_0, c14_0, rfl, o14_0, hb⟩
  have z14 := hb.size
  replace B1 := Ext.then_ B1 hb
  replace o3_0 := o3_0.ext hb
  replace om := om.ext hb
  replace x13 := x13.ext hb
  clear hb
  clear x13
  go_wp2_with fail
  refine (ER0.out _ _ _ _ _ o14_0.rd o3_0.rd).mono ?_
  rintro e w15 ⟨rfl, hb⟩
  have z15 := hb.size
  replace B1 := Ext.then_ B1 hb
  replace o3_0 := o3_0.ext hb
  replace om := om.ext hb
  replace o14_0 := o14_0.ext hb
  clear hb
  go_wp2_with fail
  refine (HR0.out _ _ _ om.rd).mono ?_
  rintro e w16 ⟨rfl, hb⟩
  have z16 := hb.size
  replace B1 := Ext.then_ B1 hb
  replace o3_0 := o3_0.ext hb
  replace om := om.ext hb
  replace o14_0 := o14_0.ext hb
  clear hb
  go_wp2_with fail
  go_ret
  exact ⟨rfl, B1⟩
end Go.Proofs.Ytbkgmegpgnmlpaa
