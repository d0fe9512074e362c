/- The law FnExactMeanError, walked. -/
import Derived.Test.YtdbelajgndclfaaShp
import Derived.Test.YtdbelajgndclfaaMean
namespace Go.Proofs.Ytdbelajgndclfaa
open Go.RowKit

set_option maxRecDepth 100000 in
set_option maxHeartbeats 4000000 in
theorem walkMeanError (W : World) (Agr : Option Addr) (cgr : Nat) (gr : List (List Int)) (hAgr : MatRdA W Agr gr) (hngr : gr.length ≤ maxLen) (hsgr : ∀ r ∈ gr, r.length ≤ maxLen) (Apr : Option Addr) (cpr : Nat) (pr : List ByteArray) (hApr : RdA W Apr (strs pr)) (hnpr : pr.length ≤ maxLen) (hspr : ∀ r ∈ pr, r.size ≤ maxLen) :
    Calls Try.prog 8 #[.agg #[.slice Agr gr.length cgr], .agg #[.slice Apr pr.length cpr]] W fun e w' => e = .returned (.bool true) ∧ Below W.heap.size W w' := by
  have SZgr := Lib.hid (fun (l0 : Nat) (hl : l0 ≤ 1048576) V (hb : Below W.heap.size W V) => greySz_any Agr cgr gr l0 hl V (hAgr.ext hb) hngr hsgr)
  have TOgr := Lib.hid (fun V (hb : Below W.heap.size W V) (hm : greySmall gr) => toGrey_any Agr cgr gr V (hAgr.ext hb) hm.1 hm.2.2)
  have EXgr := Lib.hid (fun (A B : Option Addr) (c d : Nat) V (h1 : MatRd V A gr) (h2 : MatRd V B gr) (hm : greySmall gr) => eqGrey_any A B c d gr V h1 h2 (by have := hm.1; omega) hm.row)
  have SZpr := Lib.hid (fun (l0 : Nat) (hl : l0 ≤ 1048576) V (hb : Below W.heap.size W V) => picSz_any Apr cpr pr l0 hl V (hApr.ext hb) hnpr hspr)
  have TOpr := Lib.hid (fun V (hb : Below W.heap.size W V) (hm : picSmall pr) => picTo_any Apr cpr pr V (hApr.ext hb) hm)
  have EXpr := Lib.hid (fun (A B : Option Addr) (c d : Nat) V (h1 : Rd V A (strs pr)) (h2 : Rd V B (strs pr)) (hm : picSmall pr) => eqPic_any A B c d pr V h1 h2 (by unfold picSmall at hm; omega))
  have IM := Lib.hid (fun (A_gr : Option Addr) (c_gr : Nat) (A_pr : Option Addr) (c_pr : Nat) V (h_gr : MatRd V A_gr gr) (m_gr : greySmall gr) (h_pr : Rd V A_pr (strs pr)) (m_pr : picSmall pr) => mean_any A_gr c_gr gr A_pr c_pr pr V h_gr (by have := m_gr.1; omega) m_gr.row h_pr (by unfold picSmall at m_pr; omega))
  have SP := Lib.hid (fun (A_gr : Option Addr) (c_gr : Nat) (A_pr : Option Addr) (c_pr : Nat) V (h_gr : MatRd V A_gr gr) (m_gr : greySmall gr) (h_pr : Rd V A_pr (strs pr)) (m_pr : picSmall pr) => meanS_any A_gr c_gr gr A_pr c_pr pr V h_gr (by have := m_gr.1; omega) m_gr.row h_pr (by unfold picSmall at m_pr; omega))
  clear hAgr hngr hsgr hApr hnpr hspr
  generalize meanV gr pr = R0 at *
  generalize meanOk gr pr = R1 at *
  generalize gr.length = n_gr at *
  generalize pr.length = n_pr at *
  have B1 : Below W.heap.size W ((W.alloc (.cells #[.slice Agr n_gr cgr] 44)).alloc (.cells #[.slice Apr n_pr cpr] 32)) := Ext.more (Ext.more (Ext.refl _) _) _
  have TAgr : Blk ((W.alloc (.cells #[.slice Agr n_gr cgr] 44)).alloc (.cells #[.slice Apr n_pr cpr] 32)) (W.heap.size) 44 #[.slice Agr n_gr cgr] := (Blk.made W 44 #[.slice Agr n_gr cgr]).more _
  have TApr : Blk ((W.alloc (.cells #[.slice Agr n_gr cgr] 44)).alloc (.cells #[.slice Apr n_pr cpr] 32)) (W.heap.size + 1) 32 #[.slice Apr n_pr cpr] := by
    have := Blk.made (W.alloc (.cells #[.slice Agr n_gr cgr] 44)) 32 #[.slice Apr n_pr cpr]
    simpa using this
  go_enter Try.func8, Try.ntmps8
  go_wp2_with fail
  refine (SZgr.out 1048576 (by omega) _ B1).mono ?_
  rintro e w1 ⟨⟨r1, rfl, hr1⟩, hb⟩
  replace B1 := Ext.then_ B1 hb
  replace TAgr := TAgr.under hb TAgr.lt
  replace TApr := TApr.under hb TApr.lt
  clear hb
  by_cases h0 : r1 < 0
  · clear hr1
    go_wp2_with fail
    go_ret
    exact ⟨rfl, B1⟩
  obtain ⟨Mgr, l1, hl1, rfl⟩ : greySmall gr ∧ ∃ l : Nat, l ≤ 1048576 ∧ r1 = l := by
    rcases hr1 with h | h
    · exact absurd h h0
    · exact h
  replace Mgr := Lib.hid Mgr
  clear SZgr h0
  have kTApr := TApr.cell 0
  simp at kTApr
  go_wp2_with fail
  refine (SZpr.out l1 hl1 _ B1).mono ?_
  rintro e w2 ⟨⟨r2, rfl, hr2⟩, hb⟩
  clear kTApr
  replace B1 := Ext.then_ B1 hb
  replace TAgr := TAgr.under hb TAgr.lt
  replace TApr := TApr.under hb TApr.lt
  clear hb
  by_cases h0 : r2 < 0
  · clear hr2
    go_wp2_with fail
    go_ret
    exact ⟨rfl, B1⟩
  have Mpr : Hid (picSmall pr) := by
    rcases hr2 with h | h
    · exact absurd h h0
    · exact h
  clear SZpr hr2
  go_wp2_with fail
  have kTAgr := TAgr.cell 0
  have kTApr := TApr.cell 0
  simp at kTAgr kTApr
  have zTgr := TAgr.lt
  have zTpr := TApr.lt
  go_region_held3 (fun w' => w'.cell? ⟨W.heap.size, 0, none⟩ = some (.slice Agr n_gr cgr) ∧ w'.cell? ⟨W.heap.size + 1, 0, none⟩ = some (.slice Apr n_pr cpr))
    (first | ((go_split_ands; refine ⟨?_, ?_⟩ <;> exact (hb'.cell (p := ⟨_, _, none⟩) (by first | omega | (simp; omega) | simp)).trans (by assumption))) | go_keep)
    (first
      | (go_at_call 35; refine (TOgr.out _ (Ext.draw B1) Mgr.out).mono ?_; rintro e w3 ⟨A3, c3, vs3, rfl, x3, hb'⟩; have hs3 := hb'; have hc3 := hb'; have z3 : w2.heap.size ≤ w3.heap.size := hb'.size)
      | (go_at_call 23; refine (TOpr.out _ (Ext.then_ (Ext.draw B1) hc3) Mpr.out).mono ?_; rintro e w4 ⟨A4, c4, rfl, x4, hb'⟩; have hs4 := hb'; have hc4 := Ext.then_ hc3 hb'; have z4 : w3.heap.size ≤ w4.heap.size := hb'.size)
      | (go_at_call 37; refine (SP.out _ _ _ _ _ (x3.ext hs4).rd Mgr.out x4.rd Mpr.out).mono ?_; rintro e w5 ⟨rfl, hb⟩; have hb' := hb))
  have hq := Ext.undraw (Ext.then_ hc4 hb)
  have hsz : w4.heap.size ≤ w5.heap.size := hb.size
  clear hb hb' hs3 hc3 x3 hs4 hc4 x4
  have hb := hq
  clear hq
  clear zTgr
  clear zTpr
  clear kTAgr kTApr
  have z5 := hb.size
  replace B1 := Ext.then_ B1 hb
  replace TAgr := TAgr.under hb TAgr.lt
  replace TApr := TApr.under hb TApr.lt
  clear hb
  have kTAgr := TAgr.cell 0
  simp at kTAgr
  go_wp2_with fail
  refine (TOgr.out _ B1 Mgr.out).mono ?_
  rintro e w6 ⟨A6, c6, vs6, rfl, x6, hb⟩
  have z6 := hb.size
  clear kTAgr
  have hbx := Ext.more hb (.cells #[.slice A6 n_gr c6] 39)
  replace B1 := Ext.then_ B1 hbx
  replace TAgr := TAgr.under hbx TAgr.lt
  replace TApr := TApr.under hbx TApr.lt
  have TX6 := Blk.made w6 39 #[.slice A6 n_gr c6]
  replace x6 := x6.ext (Ext.more (Ext.refl _) (.cells #[.slice A6 n_gr c6] 39))
  clear hb hbx
  have kTApr := TApr.cell 0
  simp at kTApr
  go_wp2_with fail
  generalize w6.alloc (.cells #[.slice A6 n_gr c6] 39) = V6 at *
  have y6 := TX6.lt
  skip
  have kTApr := TApr.cell 0
  simp at kTApr
  go_wp2_with fail
  refine (TOpr.out _ B1 Mpr.out).mono ?_
  rintro e w7 ⟨A7, c7, rfl, x7, hb⟩
  have z7 := hb.size
  clear kTApr
  have hbx := Ext.more hb (.cells #[.slice A7 n_pr c7] 26)
  replace B1 := Ext.then_ B1 hbx
  replace TAgr := TAgr.under hbx TAgr.lt
  replace TApr := TApr.under hbx TApr.lt
  replace TX6 := TX6.under hbx TX6.lt
  replace x6 := x6.ext hbx
  have TX7 := Blk.made w7 26 #[.slice A7 n_pr c7]
  replace x7 := x7.ext (Ext.more (Ext.refl _) (.cells #[.slice A7 n_pr c7] 26))
  clear hb hbx
  have kTX6 := TX6.cell 0
  have kTX7 := TX7.cell 0
  simp at kTX6 kTX7
  go_wp2_with fail
  generalize w7.alloc (.cells #[.slice A7 n_pr c7] 26) = V7 at *
  have y7 := TX7.lt
  refine (IM.out _ _ _ _ _ x6.rd Mgr.out x7.rd Mpr.out).mono ?_
  rintro e w8 ⟨rfl, hb⟩
  clear kTX6 kTX7
  have z8 := hb.size
  replace B1 := Ext.then_ B1 hb
  replace TAgr := TAgr.under hb TAgr.lt
  replace TApr := TApr.under hb TApr.lt
  replace TX6 := TX6.under hb TX6.lt
  replace TX7 := TX7.under hb TX7.lt
  replace x6 := x6.ext hb
  replace x7 := x7.ext hb
  clear hb
  have q0 : (R0 != R0) = false := by simp
  have q1 : (R1 != R1) = false := by simp
  go_wp2_with fail
  have kTX6 := TX6.cell 0
  have kTAgr := TAgr.cell 0
  simp at kTX6 kTAgr
  have zz1 := TX6.lt
  have zz2 := TAgr.lt
  go_region_held3 (fun w' => w'.cell? ⟨w6.heap.size, 0, none⟩ = some (.slice A6 n_gr c6) ∧ w'.cell? ⟨W.heap.size, 0, none⟩ = some (.slice Agr n_gr cgr))
    (first | ((go_split_ands; refine ⟨?_, ?_⟩ <;> exact (hb'.cell (p := ⟨_, _, none⟩) (by first | omega | (simp; omega) | simp)).trans (by assumption))) | go_keep)
    (first
      | (go_at_call 35; refine (TOgr.out _ (Ext.draw B1) Mgr.out).mono ?_; rintro e w9 ⟨A9, c9, vs9, rfl, x9, hb'⟩; have hs9 := hb'; have z9 : w8.heap.size ≤ w9.heap.size := hb'.size)
      | (go_at_call 30; refine (EXgr.out _ _ _ _ _ (x6.ext (Ext.undraw hb')).rd x9.rd Mgr.out).mono ?_; rintro e w10 ⟨rfl, hb'⟩))
  have hb := Ext.undraw (Ext.then_ hs9 hb')
  have z10 : w9.heap.size ≤ w10.heap.size := hb'.size
  clear x9 hs9 hb' zz1 zz2
  clear kTX6 kTAgr
  replace B1 := Ext.then_ B1 hb
  replace TAgr := TAgr.under hb TAgr.lt
  replace TApr := TApr.under hb TApr.lt
  replace TX6 := TX6.under hb TX6.lt
  replace TX7 := TX7.under hb TX7.lt
  replace x6 := x6.ext hb
  replace x7 := x7.ext hb
  clear hb
  go_wp2_with fail
  have kTX7 := TX7.cell 0
  have kTApr := TApr.cell 0
  simp at kTX7 kTApr
  have zz1 := TX7.lt
  have zz2 := TApr.lt
  go_region_held3 (fun w' => w'.cell? ⟨w7.heap.size, 0, none⟩ = some (.slice A7 n_pr c7) ∧ w'.cell? ⟨W.heap.size + 1, 0, none⟩ = some (.slice Apr n_pr cpr))
    (first | ((go_split_ands; refine ⟨?_, ?_⟩ <;> exact (hb'.cell (p := ⟨_, _, none⟩) (by first | omega | (simp; omega) | simp)).trans (by assumption))) | go_keep)
    (first
      | (go_at_call 23; refine (TOpr.out _ (Ext.draw B1) Mpr.out).mono ?_; rintro e w11 ⟨A11, c11, rfl, x11, hb'⟩; have hs11 := hb'; have z11 : w10.heap.size ≤ w11.heap.size := hb'.size)
      | (go_at_call 24; refine (EXpr.out _ _ _ _ _ (x7.ext (Ext.undraw hb')).rd x11.rd Mpr.out).mono ?_; rintro e w12 ⟨rfl, hb'⟩))
  have hb := Ext.undraw (Ext.then_ hs11 hb')
  have z12 : w11.heap.size ≤ w12.heap.size := hb'.size
  clear x11 hs11 hb' zz1 zz2
  clear kTX7 kTApr
  replace B1 := Ext.then_ B1 hb
  replace TAgr := TAgr.under hb TAgr.lt
  replace TApr := TApr.under hb TApr.lt
  replace TX6 := TX6.under hb TX6.lt
  replace TX7 := TX7.under hb TX7.lt
  replace x6 := x6.ext hb
  replace x7 := x7.ext hb
  clear hb
  go_wp2_with fail
  go_ret
  exact ⟨rfl, B1⟩
end Go.Proofs.Ytdbelajgndclfaa
