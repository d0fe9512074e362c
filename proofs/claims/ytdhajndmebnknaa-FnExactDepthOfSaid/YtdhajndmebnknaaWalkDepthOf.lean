/- The law FnExactDepthOf, walked. -/
import Derived.Test.YtdhajndmebnknaaShp
import Derived.Test.YtdhajndmebnknaaTopX
namespace Go.Proofs.Ytdhajndmebnknaa
open Go.RowKit

set_option maxRecDepth 100000 in
set_option maxHeartbeats 4000000 in
theorem walkDepthOf (W : World) (Apr : Option Addr) (cpr : Nat) (pr : List ByteArray) (hApr : RdA W Apr (strs pr)) (hnpr : pr.length ≤ maxLen) (hspr : ∀ r ∈ pr, r.size ≤ maxLen) :
    Calls Try.prog 3 #[.agg #[.slice Apr pr.length cpr]] W fun e w' => e = .returned (.bool true) ∧ Below W.heap.size W w' := by
  have SZpr := Lib.hid (fun (l0 : Nat) (hl : l0 ≤ 1048576) V (hb : Below W.heap.size W V) => picSz_any Apr cpr pr l0 hl V (hApr.ext hb) hnpr hspr)
  have TOpr := Lib.hid (fun V (hb : Below W.heap.size W V) (hm : picSmall pr) => picTo_any Apr cpr pr V (hApr.ext hb) hm)
  have EXpr := Lib.hid (fun (A B : Option Addr) (c d : Nat) V (h1 : Rd V A (strs pr)) (h2 : Rd V B (strs pr)) (hm : picSmall pr) => eqPic_any A B c d pr V h1 h2 (by unfold picSmall at hm; omega))
  have IM := Lib.hid (fun (A_pr : Option Addr) (c_pr : Nat) V (h_pr : Rd V A_pr (strs pr)) (m_pr : picSmall pr) => depthOf_anyT A_pr c_pr pr V h_pr (by unfold picSmall at m_pr; omega))
  have SP := Lib.hid (fun (A_pr : Option Addr) (c_pr : Nat) V (h_pr : Rd V A_pr (strs pr)) (m_pr : picSmall pr) => depthOfS_anyT A_pr c_pr pr V h_pr (by unfold picSmall at m_pr; omega))
  clear hApr hnpr hspr
  generalize (deepT pr) = R0 at *
  generalize (picOk pr) = R1 at *
  generalize pr.length = n_pr at *
  have B1 : Below W.heap.size W (W.alloc (.cells #[.slice Apr n_pr cpr] 24)) := Ext.more (Ext.refl _) _
  have TApr : Blk (W.alloc (.cells #[.slice Apr n_pr cpr] 24)) (W.heap.size) 24 #[.slice Apr n_pr cpr] := Blk.made W 24 #[.slice Apr n_pr cpr]
  go_enter Try.func3, Try.ntmps3
  go_wp2_with fail
  refine (SZpr.out 1048576 (by omega) _ B1).mono ?_
  rintro e w1 ⟨⟨r1, rfl, hr1⟩, hb⟩
  replace B1 := Ext.then_ B1 hb
  replace TApr := TApr.under hb TApr.lt
  clear hb
  by_cases h0 : r1 < 0
  · clear hr1
    go_wp2_with fail
    go_ret
    exact ⟨rfl, B1⟩
  have Mpr : Hid (picSmall pr) := by
    rcases hr1 with h | h
    · exact absurd h h0
    · exact h
  clear SZpr hr1
  have kTApr := TApr.cell 0
  simp at kTApr
  go_wp2_with fail
  have zW2 := B1.size
  have zTApr2 := TApr.lt
  refine (TOpr.out _ B1 Mpr.out).mono ?_
  rintro e w2 ⟨A2, c2, rfl, x2, hb⟩
  have z2 := hb.size
  clear kTApr
  replace B1 := Ext.then_ B1 hb
  replace TApr := TApr.under hb TApr.lt
  clear hb
  go_wp2_with fail
  refine (SP.out _ _ _ x2.rd Mpr.out).mono ?_
  rintro e w3 ⟨rfl, hb⟩
  have z3 := hb.size
  replace B1 := Ext.then_ B1 hb
  replace TApr := TApr.under hb TApr.lt
  replace x2 := x2.ext hb
  clear hb
  clear x2
  have kTApr := TApr.cell 0
  simp at kTApr
  go_wp2_with fail
  have zW4 := B1.size
  have zTApr4 := TApr.lt
  refine (TOpr.out _ B1 Mpr.out).mono ?_
  rintro e w4 ⟨A4, c4, rfl, x4, hb⟩
  have z4 := hb.size
  clear kTApr
  have hbx := Ext.more hb (.cells #[.slice A4 n_pr c4] 28)
  replace B1 := Ext.then_ B1 hbx
  replace TApr := TApr.under hbx TApr.lt
  have TX4 := Blk.made w4 28 #[.slice A4 n_pr c4]
  replace x4 := x4.ext (Ext.more (Ext.refl _) (.cells #[.slice A4 n_pr c4] 28))
  clear hb hbx
  have kTX4 := TX4.cell 0
  simp at kTX4
  go_wp2_with fail
  generalize w4.alloc (.cells #[.slice A4 n_pr c4] 28) = V4 at *
  have y4 := TX4.lt
  refine (IM.out _ _ _ x4.rd Mpr.out).mono ?_
  rintro e w5 ⟨rfl, hb⟩
  clear kTX4
  have z5 := hb.size
  replace B1 := Ext.then_ B1 hb
  replace TApr := TApr.under hb TApr.lt
  replace TX4 := TX4.under hb TX4.lt
  replace x4 := x4.ext hb
  clear hb
  have q0 : (R0 != R0) = false := by simp
  have q1 : (R1 != R1) = false := by simp
  go_wp2_with fail
  have kTX4 := TX4.cell 0
  have kTApr := TApr.cell 0
  simp at kTX4 kTApr
  have zz1 := TX4.lt
  have zz2 := TApr.lt
  go_region_held3 (fun w' => w'.cell? ⟨w4.heap.size, 0, none⟩ = some (.slice A4 n_pr c4) ∧ w'.cell? ⟨W.heap.size, 0, none⟩ = some (.slice Apr n_pr cpr))
    (first | ((go_split_ands; refine ⟨?_, ?_⟩ <;> exact (hb'.cell (p := ⟨_, _, none⟩) (by first | omega | (simp; omega) | simp)).trans (by assumption))) | go_keep)
    (first
      | (go_at_call 9; refine (TOpr.out _ (Ext.draw B1) Mpr.out).mono ?_; rintro e w6 ⟨A6, c6, rfl, x6, hb'⟩; have hs6 := hb'; have z6 : w5.heap.size ≤ w6.heap.size := hb'.size)
      | (go_at_call 11; refine (EXpr.out _ _ _ _ _ (x4.ext (Ext.undraw hb')).rd x6.rd Mpr.out).mono ?_; rintro e w7 ⟨rfl, hb'⟩))
  have hb := Ext.undraw (Ext.then_ hs6 hb')
  have z7 : w6.heap.size ≤ w7.heap.size := hb'.size
  clear x6 hs6 hb' zz1 zz2
  clear kTX4 kTApr
  replace B1 := Ext.then_ B1 hb
  replace TApr := TApr.under hb TApr.lt
  replace TX4 := TX4.under hb TX4.lt
  replace x4 := x4.ext hb
  clear hb
  go_wp2_with fail
  go_ret
  exact ⟨rfl, B1⟩
end Go.Proofs.Ytdhajndmebnknaa
