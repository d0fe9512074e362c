/- The law FnExactSameTopology, walked. -/
import Derived.Test.YtdhajndmebnknaaShp
import Derived.Test.YtdhajndmebnknaaSz2
import Derived.Test.YtdhajndmebnknaaTopX
namespace Go.Proofs.Ytdhajndmebnknaa
open Go.RowKit

set_option maxRecDepth 100000 in
set_option maxHeartbeats 4000000 in
theorem walkSameTopology (W : World) (Apr : Option Addr) (cpr : Nat) (pr : List ByteArray) (hApr : RdA W Apr (strs pr)) (hnpr : pr.length ≤ maxLen) (hspr : ∀ r ∈ pr, r.size ≤ maxLen) (Aqr : Option Addr) (cqr : Nat) (qr : List ByteArray) (hAqr : RdA W Aqr (strs qr)) (hnqr : qr.length ≤ maxLen) (hsqr : ∀ r ∈ qr, r.size ≤ maxLen) :
    Calls Try.prog 5 #[.agg #[.slice Apr pr.length cpr], .agg #[.slice Aqr qr.length cqr]] W fun e w' => e = .returned (.bool true) ∧ Below W.heap.size W w' := by
  have SZpr := Lib.hid (fun (l0 : Nat) (hl : l0 ≤ 1048576) V (hb : Below W.heap.size W V) => picSz2_any Apr cpr pr l0 hl V (hApr.ext hb) hnpr hspr)
  have TOpr := Lib.hid (fun V (hb : Below W.heap.size W V) (hm : picSmall pr) => picTo_any Apr cpr pr V (hApr.ext hb) hm)
  have EXpr := Lib.hid (fun (A B : Option Addr) (c d : Nat) V (h1 : Rd V A (strs pr)) (h2 : Rd V B (strs pr)) (hm : picSmall pr) => eqPic_any A B c d pr V h1 h2 (by unfold picSmall at hm; omega))
  have SZqr := Lib.hid (fun (l0 : Nat) (hl : l0 ≤ 1048576) V (hb : Below W.heap.size W V) => picSz2_any Aqr cqr qr l0 hl V (hAqr.ext hb) hnqr hsqr)
  have TOqr := Lib.hid (fun V (hb : Below W.heap.size W V) (hm : picSmall qr) => picTo_any Aqr cqr qr V (hAqr.ext hb) hm)
  have EXqr := Lib.hid (fun (A B : Option Addr) (c d : Nat) V (h1 : Rd V A (strs qr)) (h2 : Rd V B (strs qr)) (hm : picSmall qr) => eqPic_any A B c d qr V h1 h2 (by unfold picSmall at hm; omega))
  have IM := Lib.hid (fun (A_pr : Option Addr) (c_pr : Nat) (A_qr : Option Addr) (c_qr : Nat) V (h_pr : Rd V A_pr (strs pr)) (m_pr : picSmall pr) (h_qr : Rd V A_qr (strs qr)) (m_qr : picSmall qr) => sameTop_any A_pr c_pr pr A_qr c_qr qr V h_pr (by unfold picSmall at m_pr; omega) h_qr (by unfold picSmall at m_qr; omega))
  have SP := Lib.hid (fun (A_pr : Option Addr) (c_pr : Nat) (A_qr : Option Addr) (c_qr : Nat) V (h_pr : Rd V A_pr (strs pr)) (m_pr : picSmall pr) (h_qr : Rd V A_qr (strs qr)) (m_qr : picSmall qr) => sameTopS_any A_pr c_pr pr A_qr c_qr qr V h_pr (by unfold picSmall at m_pr; omega) h_qr (by unfold picSmall at m_qr; omega))
  clear hApr hnpr hspr hAqr hnqr hsqr
  generalize (sameT pr qr) = R0 at *
  generalize pr.length = n_pr at *
  generalize qr.length = n_qr at *
  have B1 : Below W.heap.size W ((W.alloc (.cells #[.slice Apr n_pr cpr] 24)).alloc (.cells #[.slice Aqr n_qr cqr] 24)) := Ext.more (Ext.more (Ext.refl _) _) _
  have TApr : Blk ((W.alloc (.cells #[.slice Apr n_pr cpr] 24)).alloc (.cells #[.slice Aqr n_qr cqr] 24)) (W.heap.size) 24 #[.slice Apr n_pr cpr] := (Blk.made W 24 #[.slice Apr n_pr cpr]).more _
  have TAqr : Blk ((W.alloc (.cells #[.slice Apr n_pr cpr] 24)).alloc (.cells #[.slice Aqr n_qr cqr] 24)) (W.heap.size + 1) 24 #[.slice Aqr n_qr cqr] := by
    have := Blk.made (W.alloc (.cells #[.slice Apr n_pr cpr] 24)) 24 #[.slice Aqr n_qr cqr]
    simpa using this
  go_enter Try.func5, Try.ntmps5
  go_wp2_with fail
  refine (SZpr.out 1048576 (by omega) _ B1).mono ?_
  rintro e w1 ⟨⟨r1, rfl, hr1⟩, hb⟩
  replace B1 := Ext.then_ B1 hb
  replace TApr := TApr.under hb TApr.lt
  replace TAqr := TAqr.under hb TAqr.lt
  clear hb
  by_cases h0 : r1 < 0
  · clear hr1
    go_wp2_with fail
    go_ret
    exact ⟨rfl, B1⟩
  obtain ⟨Mpr, l1, hl1, rfl⟩ : picSmall pr ∧ ∃ l : Nat, l ≤ 1048576 ∧ r1 = l := by
    rcases hr1 with h | h
    · exact absurd h h0
    · exact h
  replace Mpr := Lib.hid Mpr
  clear SZpr h0
  have kTAqr := TAqr.cell 0
  simp at kTAqr
  go_wp2_with fail
  refine (SZqr.out l1 hl1 _ B1).mono ?_
  rintro e w2 ⟨⟨r2, rfl, hr2⟩, hb⟩
  clear kTAqr
  replace B1 := Ext.then_ B1 hb
  replace TApr := TApr.under hb TApr.lt
  replace TAqr := TAqr.under hb TAqr.lt
  clear hb
  by_cases h0 : r2 < 0
  · clear hr2
    go_wp2_with fail
    go_ret
    exact ⟨rfl, B1⟩
  obtain ⟨Mqr, l2, hl2, rfl⟩ : picSmall qr ∧ ∃ l : Nat, l ≤ 1048576 ∧ r2 = l := by
    rcases hr2 with h | h
    · exact absurd h h0
    · exact h
  replace Mqr := Lib.hid Mqr
  clear SZqr h0
  go_wp2_with fail
  have kTApr := TApr.cell 0
  have kTAqr := TAqr.cell 0
  simp at kTApr kTAqr
  have zTpr := TApr.lt
  have zTqr := TAqr.lt
  go_region_held3 (fun w' => w'.cell? ⟨W.heap.size, 0, none⟩ = some (.slice Apr n_pr cpr) ∧ w'.cell? ⟨W.heap.size + 1, 0, none⟩ = some (.slice Aqr n_qr cqr))
    (first | ((go_split_ands; refine ⟨?_, ?_⟩ <;> exact (hb'.cell (p := ⟨_, _, none⟩) (by first | omega | (simp; omega) | simp)).trans (by assumption))) | go_keep)
    (first
      | (go_at_call_of 9 (Value.slice Apr n_pr cpr); refine (TOpr.out _ (Ext.draw B1) Mpr.out).mono ?_; rintro e w3 ⟨A3, c3, rfl, x3, hb'⟩; have hs3 := hb'; have hc3 := hb'; have z3 : w2.heap.size ≤ w3.heap.size := hb'.size)
      | (go_at_call_of 9 (Value.slice Aqr n_qr cqr); refine (TOqr.out _ (Ext.then_ (Ext.draw B1) hc3) Mqr.out).mono ?_; rintro e w4 ⟨A4, c4, rfl, x4, hb'⟩; have hs4 := hb'; have hc4 := Ext.then_ hc3 hb'; have z4 : w3.heap.size ≤ w4.heap.size := hb'.size)
      | (go_at_call 14; refine (SP.out _ _ _ _ _ (x3.ext hs4).rd Mpr.out x4.rd Mqr.out).mono ?_; rintro e w5 ⟨rfl, hb⟩; have hb' := hb))
  have hq := Ext.undraw (Ext.then_ hc4 hb)
  have hsz : w4.heap.size ≤ w5.heap.size := hb.size
  clear hb hb' hs3 hc3 x3 hs4 hc4 x4
  have hb := hq
  clear hq
  clear zTpr
  clear zTqr
  clear kTApr kTAqr
  have z5 := hb.size
  replace B1 := Ext.then_ B1 hb
  replace TApr := TApr.under hb TApr.lt
  replace TAqr := TAqr.under hb TAqr.lt
  clear hb
  have kTApr := TApr.cell 0
  simp at kTApr
  go_wp2_with fail
  have zW6 := B1.size
  have zTApr6 := TApr.lt
  have zTAqr6 := TAqr.lt
  refine (TOpr.out _ B1 Mpr.out).mono ?_
  rintro e w6 ⟨A6, c6, rfl, x6, hb⟩
  have z6 := hb.size
  clear kTApr
  have hbx := Ext.more hb (.cells #[.slice A6 n_pr c6] 28)
  replace B1 := Ext.then_ B1 hbx
  replace TApr := TApr.under hbx TApr.lt
  replace TAqr := TAqr.under hbx TAqr.lt
  have TX6 := Blk.made w6 28 #[.slice A6 n_pr c6]
  replace x6 := x6.ext (Ext.more (Ext.refl _) (.cells #[.slice A6 n_pr c6] 28))
  clear hb hbx
  have kTAqr := TAqr.cell 0
  simp at kTAqr
  go_wp2_with fail
  generalize w6.alloc (.cells #[.slice A6 n_pr c6] 28) = V6 at *
  have y6 := TX6.lt
  skip
  have kTAqr := TAqr.cell 0
  simp at kTAqr
  go_wp2_with fail
  have zW7 := B1.size
  have zTApr7 := TApr.lt
  have zTAqr7 := TAqr.lt
  refine (TOqr.out _ B1 Mqr.out).mono ?_
  rintro e w7 ⟨A7, c7, rfl, x7, hb⟩
  have z7 := hb.size
  clear kTAqr
  have hbx := Ext.more hb (.cells #[.slice A7 n_qr c7] 28)
  replace B1 := Ext.then_ B1 hbx
  replace TApr := TApr.under hbx TApr.lt
  replace TAqr := TAqr.under hbx TAqr.lt
  replace TX6 := TX6.under hbx TX6.lt
  replace x6 := x6.ext hbx
  have TX7 := Blk.made w7 28 #[.slice A7 n_qr c7]
  replace x7 := x7.ext (Ext.more (Ext.refl _) (.cells #[.slice A7 n_qr c7] 28))
  clear hb hbx
  have kTX6 := TX6.cell 0
  have kTX7 := TX7.cell 0
  simp at kTX6 kTX7
  go_wp2_with fail
  generalize w7.alloc (.cells #[.slice A7 n_qr c7] 28) = V7 at *
  have y7 := TX7.lt
  refine (IM.out _ _ _ _ _ x6.rd Mpr.out x7.rd Mqr.out).mono ?_
  rintro e w8 ⟨rfl, hb⟩
  clear kTX6 kTX7
  have z8 := hb.size
  replace B1 := Ext.then_ B1 hb
  replace TApr := TApr.under hb TApr.lt
  replace TAqr := TAqr.under hb TAqr.lt
  replace TX6 := TX6.under hb TX6.lt
  replace TX7 := TX7.under hb TX7.lt
  replace x6 := x6.ext hb
  replace x7 := x7.ext hb
  clear hb
  have q0 : (R0 != R0) = false := by simp
  go_wp2_with fail
  have kTX6 := TX6.cell 0
  have kTApr := TApr.cell 0
  simp at kTX6 kTApr
  have zz1 := TX6.lt
  have zz2 := TApr.lt
  go_region_held3 (fun w' => w'.cell? ⟨w6.heap.size, 0, none⟩ = some (.slice A6 n_pr c6) ∧ w'.cell? ⟨W.heap.size, 0, none⟩ = some (.slice Apr n_pr cpr))
    (first | ((go_split_ands; refine ⟨?_, ?_⟩ <;> exact (hb'.cell (p := ⟨_, _, none⟩) (by first | omega | (simp; omega) | simp)).trans (by assumption))) | go_keep)
    (first
      | (go_at_call 9; refine (TOpr.out _ (Ext.draw B1) Mpr.out).mono ?_; rintro e w9 ⟨A9, c9, rfl, x9, hb'⟩; have hs9 := hb'; have z9 : w8.heap.size ≤ w9.heap.size := hb'.size)
      | (go_at_call 11; refine (EXpr.out _ _ _ _ _ (x6.ext (Ext.undraw hb')).rd x9.rd Mpr.out).mono ?_; rintro e w10 ⟨rfl, hb'⟩))
  have hb := Ext.undraw (Ext.then_ hs9 hb')
  have z10 : w9.heap.size ≤ w10.heap.size := hb'.size
  clear x9 hs9 hb' zz1 zz2
  clear kTX6 kTApr
  replace B1 := Ext.then_ B1 hb
  replace TApr := TApr.under hb TApr.lt
  replace TAqr := TAqr.under hb TAqr.lt
  replace TX6 := TX6.under hb TX6.lt
  replace TX7 := TX7.under hb TX7.lt
  replace x6 := x6.ext hb
  replace x7 := x7.ext hb
  clear hb
  go_wp2_with fail
  have kTX7 := TX7.cell 0
  have kTAqr := TAqr.cell 0
  simp at kTX7 kTAqr
  have zz1 := TX7.lt
  have zz2 := TAqr.lt
  go_region_held3 (fun w' => w'.cell? ⟨w7.heap.size, 0, none⟩ = some (.slice A7 n_qr c7) ∧ w'.cell? ⟨W.heap.size + 1, 0, none⟩ = some (.slice Aqr n_qr cqr))
    (first | ((go_split_ands; refine ⟨?_, ?_⟩ <;> exact (hb'.cell (p := ⟨_, _, none⟩) (by first | omega | (simp; omega) | simp)).trans (by assumption))) | go_keep)
    (first
      | (go_at_call 9; refine (TOqr.out _ (Ext.draw B1) Mqr.out).mono ?_; rintro e w11 ⟨A11, c11, rfl, x11, hb'⟩; have hs11 := hb'; have z11 : w10.heap.size ≤ w11.heap.size := hb'.size)
      | (go_at_call 11; refine (EXqr.out _ _ _ _ _ (x7.ext (Ext.undraw hb')).rd x11.rd Mqr.out).mono ?_; rintro e w12 ⟨rfl, hb'⟩))
  have hb := Ext.undraw (Ext.then_ hs11 hb')
  have z12 : w11.heap.size ≤ w12.heap.size := hb'.size
  clear x11 hs11 hb' zz1 zz2
  clear kTX7 kTAqr
  replace B1 := Ext.then_ B1 hb
  replace TApr := TApr.under hb TApr.lt
  replace TAqr := TAqr.under hb TAqr.lt
  replace TX6 := TX6.under hb TX6.lt
  replace TX7 := TX7.under hb TX7.lt
  replace x6 := x6.ext hb
  replace x7 := x7.ext hb
  clear hb
  go_wp2_with fail
  go_ret
  exact ⟨rfl, B1⟩
end Go.Proofs.Ytdhajndmebnknaa
