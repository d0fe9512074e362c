/- The law FnExactSameValleys, walked. -/
import Derived.Test.YtkamkjbllmgifaaShp
import Derived.Test.YtkamkjbllmgifaaVlS
namespace Go.Proofs.Ytkamkjbllmgifaa
open Go.RowKit

set_option maxRecDepth 100000 in
set_option maxHeartbeats 4000000 in
theorem walkSameValleys (W : World) (Agr : Option Addr) (cgr : Nat) (gr : List (List Int)) (hAgr : MatRdA W Agr gr) (hngr : gr.length ≤ maxLen) (hsgr : ∀ r ∈ gr, r.length ≤ maxLen) (Ahr : Option Addr) (chr : Nat) (hr : List (List Int)) (hAhr : MatRdA W Ahr hr) (hnhr : hr.length ≤ maxLen) (hshr : ∀ r ∈ hr, r.length ≤ maxLen) :
    Calls Try.prog 7 #[.agg #[.slice Agr gr.length cgr], .agg #[.slice Ahr hr.length chr]] W fun e w' => e = .returned (.bool true) ∧ Below W.heap.size W w' := by
  have SZgr := Lib.hid (fun (l0 : Nat) (hl : l0 ≤ 1048576) V (hb : Below W.heap.size W V) => greySz_any Agr cgr gr l0 hl V (hAgr.ext hb) hngr hsgr)
  have TOgr := Lib.hid (fun V (hb : Below W.heap.size W V) (hm : greySmall gr) => toGrey_any Agr cgr gr V (hAgr.ext hb) hm.1 hm.2.2)
  have EXgr := Lib.hid (fun (A B : Option Addr) (c d : Nat) V (h1 : MatRd V A gr) (h2 : MatRd V B gr) (hm : greySmall gr) => eqGrey_any A B c d gr V h1 h2 (by have := hm.1; omega) hm.row)
  have SZhr := Lib.hid (fun (l0 : Nat) (hl : l0 ≤ 1048576) V (hb : Below W.heap.size W V) => greySz_any Ahr chr hr l0 hl V (hAhr.ext hb) hnhr hshr)
  have TOhr := Lib.hid (fun V (hb : Below W.heap.size W V) (hm : greySmall hr) => toGrey_any Ahr chr hr V (hAhr.ext hb) hm.1 hm.2.2)
  have EXhr := Lib.hid (fun (A B : Option Addr) (c d : Nat) V (h1 : MatRd V A hr) (h2 : MatRd V B hr) (hm : greySmall hr) => eqGrey_any A B c d hr V h1 h2 (by have := hm.1; omega) hm.row)
  have IM := Lib.hid (fun (A_gr : Option Addr) (c_gr : Nat) (A_hr : Option Addr) (c_hr : Nat) V (h_gr : MatRd V A_gr gr) (m_gr : greySmall gr) (h_hr : MatRd V A_hr hr) (m_hr : greySmall hr) => sameVal_any A_gr c_gr gr A_hr c_hr hr V h_gr h_hr (by have := m_gr.1; omega) m_gr.row (by have := m_hr.1; omega) m_hr.row)
  have SP := Lib.hid (fun (A_gr : Option Addr) (c_gr : Nat) (A_hr : Option Addr) (c_hr : Nat) V (h_gr : MatRd V A_gr gr) (m_gr : greySmall gr) (h_hr : MatRd V A_hr hr) (m_hr : greySmall hr) => sameValS_any A_gr c_gr gr A_hr c_hr hr V h_gr h_hr (by have := m_gr.1; omega) m_gr.row (by have := m_hr.1; omega) m_hr.row)
  clear hAgr hngr hsgr hAhr hnhr hshr
  generalize (sameV gr hr) = R0 at *
  generalize gr.length = n_gr at *
  generalize hr.length = n_hr at *
  have B1 : Below W.heap.size W ((W.alloc (.cells #[.slice Agr n_gr cgr] 47)).alloc (.cells #[.slice Ahr n_hr chr] 47)) := Ext.more (Ext.more (Ext.refl _) _) _
  have TAgr : Blk ((W.alloc (.cells #[.slice Agr n_gr cgr] 47)).alloc (.cells #[.slice Ahr n_hr chr] 47)) (W.heap.size) 47 #[.slice Agr n_gr cgr] := (Blk.made W 47 #[.slice Agr n_gr cgr]).more _
  have TAhr : Blk ((W.alloc (.cells #[.slice Agr n_gr cgr] 47)).alloc (.cells #[.slice Ahr n_hr chr] 47)) (W.heap.size + 1) 47 #[.slice Ahr n_hr chr] := by
    have := Blk.made (W.alloc (.cells #[.slice Agr n_gr cgr] 47)) 47 #[.slice Ahr n_hr chr]
    simpa using this
  go_enter Try.func7, Try.ntmps7
  go_wp2_with fail
  refine (SZgr.out 1048576 (by omega) _ B1).mono ?_
  rintro e w1 ⟨⟨r1, rfl, hr1⟩, hb⟩
  replace B1 := Ext.then_ B1 hb
  replace TAgr := TAgr.under hb TAgr.lt
  replace TAhr := TAhr.under hb TAhr.lt
  clear hb
  by_cases h0 : r1 < 0
  · clear hr1
    go_wp2_with fail
    go_ret
    exact ⟨rfl, B1⟩
  obtain ⟨Mgr, l1, hl1, rfl⟩ : greySmall gr ∧ ∃ l : Nat, l ≤ 1048576 ∧ r1 = l := by
    rcases hr1 with h | h
    · exact absurd h h0
    · exact h
  replace Mgr := Lib.hid Mgr
  clear SZgr h0
  have kTAhr := TAhr.cell 0
  simp at kTAhr
  go_wp2_with fail
  refine (SZhr.out l1 hl1 _ B1).mono ?_
  rintro e w2 ⟨⟨r2, rfl, hr2⟩, hb⟩
  clear kTAhr
  replace B1 := Ext.then_ B1 hb
  replace TAgr := TAgr.under hb TAgr.lt
  replace TAhr := TAhr.under hb TAhr.lt
  clear hb
  by_cases h0 : r2 < 0
  · clear hr2
    go_wp2_with fail
    go_ret
    exact ⟨rfl, B1⟩
  obtain ⟨Mhr, l2, hl2, rfl⟩ : greySmall hr ∧ ∃ l : Nat, l ≤ 1048576 ∧ r2 = l := by
    rcases hr2 with h | h
    · exact absurd h h0
    · exact h
  replace Mhr := Lib.hid Mhr
  clear SZhr h0
  go_wp2_with fail
  have kTAgr := TAgr.cell 0
  have kTAhr := TAhr.cell 0
  simp at kTAgr kTAhr
  have zTgr := TAgr.lt
  have zThr := TAhr.lt
  go_region_held3 (fun w' => w'.cell? ⟨W.heap.size, 0, none⟩ = some (.slice Agr n_gr cgr) ∧ w'.cell? ⟨W.heap.size + 1, 0, none⟩ = some (.slice Ahr n_hr chr))
    (first | ((go_split_ands; refine ⟨?_, ?_⟩ <;> exact (hb'.cell (p := ⟨_, _, none⟩) (by first | omega | (simp; omega) | simp)).trans (by assumption))) | go_keep)
    (first
      | (go_at_call_of 26 (Value.slice Agr n_gr cgr); refine (TOgr.out _ (Ext.draw B1) Mgr.out).mono ?_; rintro e w3 ⟨A3, c3, vs3, rfl, x3, hb'⟩; have hs3 := hb'; have hc3 := hb'; have z3 : w2.heap.size ≤ w3.heap.size := hb'.size)
      | (go_at_call_of 26 (Value.slice Ahr n_hr chr); refine (TOhr.out _ (Ext.then_ (Ext.draw B1) hc3) Mhr.out).mono ?_; rintro e w4 ⟨A4, c4, vs4, rfl, x4, hb'⟩; have hs4 := hb'; have hc4 := Ext.then_ hc3 hb'; have z4 : w3.heap.size ≤ w4.heap.size := hb'.size)
      | (go_at_call 32; refine (SP.out _ _ _ _ _ (x3.ext hs4).rd Mgr.out x4.rd Mhr.out).mono ?_; rintro e w5 ⟨rfl, hb⟩; have hb' := hb))
  have hq := Ext.undraw (Ext.then_ hc4 hb)
  have hsz : w4.heap.size ≤ w5.heap.size := hb.size
  clear hb hb' hs3 hc3 x3 hs4 hc4 x4
  have hb := hq
  clear hq
  clear zTgr
  clear zThr
  clear kTAgr kTAhr
  have z5 := hb.size
  replace B1 := Ext.then_ B1 hb
  replace TAgr := TAgr.under hb TAgr.lt
  replace TAhr := TAhr.under hb TAhr.lt
  clear hb
  have kTAgr := TAgr.cell 0
  simp at kTAgr
  go_wp2_with fail
  have zW6 := B1.size
  have zTAgr6 := TAgr.lt
  have zTAhr6 := TAhr.lt
  refine (TOgr.out _ B1 Mgr.out).mono ?_
  rintro e w6 ⟨A6, c6, vs6, rfl, x6, hb⟩
  have z6 := hb.size
  clear kTAgr
  have hbx := Ext.more hb (.cells #[.slice A6 n_gr c6] 26)
  replace B1 := Ext.then_ B1 hbx
  replace TAgr := TAgr.under hbx TAgr.lt
  replace TAhr := TAhr.under hbx TAhr.lt
  have TX6 := Blk.made w6 26 #[.slice A6 n_gr c6]
  replace x6 := x6.ext (Ext.more (Ext.refl _) (.cells #[.slice A6 n_gr c6] 26))
  clear hb hbx
  have kTAhr := TAhr.cell 0
  simp at kTAhr
  go_wp2_with fail
  generalize w6.alloc (.cells #[.slice A6 n_gr c6] 26) = V6 at *
  have y6 := TX6.lt
  skip
  have kTAhr := TAhr.cell 0
  simp at kTAhr
  go_wp2_with fail
  have zW7 := B1.size
  have zTAgr7 := TAgr.lt
  have zTAhr7 := TAhr.lt
  refine (TOhr.out _ B1 Mhr.out).mono ?_
  rintro e w7 ⟨A7, c7, vs7, rfl, x7, hb⟩
  have z7 := hb.size
  clear kTAhr
  have hbx := Ext.more hb (.cells #[.slice A7 n_hr c7] 26)
  replace B1 := Ext.then_ B1 hbx
  replace TAgr := TAgr.under hbx TAgr.lt
  replace TAhr := TAhr.under hbx TAhr.lt
  replace TX6 := TX6.under hbx TX6.lt
  replace x6 := x6.ext hbx
  have TX7 := Blk.made w7 26 #[.slice A7 n_hr c7]
  replace x7 := x7.ext (Ext.more (Ext.refl _) (.cells #[.slice A7 n_hr c7] 26))
  clear hb hbx
  have kTX6 := TX6.cell 0
  have kTX7 := TX7.cell 0
  simp at kTX6 kTX7
  go_wp2_with fail
  generalize w7.alloc (.cells #[.slice A7 n_hr c7] 26) = V7 at *
  have y7 := TX7.lt
  refine (IM.out _ _ _ _ _ x6.rd Mgr.out x7.rd Mhr.out).mono ?_
  rintro e w8 ⟨rfl, hb⟩
  clear kTX6 kTX7
  have z8 := hb.size
  replace B1 := Ext.then_ B1 hb
  replace TAgr := TAgr.under hb TAgr.lt
  replace TAhr := TAhr.under hb TAhr.lt
  replace TX6 := TX6.under hb TX6.lt
  replace TX7 := TX7.under hb TX7.lt
  replace x6 := x6.ext hb
  replace x7 := x7.ext hb
  clear hb
  have q0 : (R0 != R0) = false := by simp
  go_wp2_with fail
  have kTX6 := TX6.cell 0
  have kTAgr := TAgr.cell 0
  simp at kTX6 kTAgr
  have zz1 := TX6.lt
  have zz2 := TAgr.lt
  go_region_held3 (fun w' => w'.cell? ⟨w6.heap.size, 0, none⟩ = some (.slice A6 n_gr c6) ∧ w'.cell? ⟨W.heap.size, 0, none⟩ = some (.slice Agr n_gr cgr))
    (first | ((go_split_ands; refine ⟨?_, ?_⟩ <;> exact (hb'.cell (p := ⟨_, _, none⟩) (by first | omega | (simp; omega) | simp)).trans (by assumption))) | go_keep)
    (first
      | (go_at_call 26; refine (TOgr.out _ (Ext.draw B1) Mgr.out).mono ?_; rintro e w9 ⟨A9, c9, vs9, rfl, x9, hb'⟩; have hs9 := hb'; have z9 : w8.heap.size ≤ w9.heap.size := hb'.size)
      | (go_at_call 28; refine (EXgr.out _ _ _ _ _ (x6.ext (Ext.undraw hb')).rd x9.rd Mgr.out).mono ?_; rintro e w10 ⟨rfl, hb'⟩))
  have hb := Ext.undraw (Ext.then_ hs9 hb')
  have z10 : w9.heap.size ≤ w10.heap.size := hb'.size
  clear x9 hs9 hb' zz1 zz2
  clear kTX6 kTAgr
  replace B1 := Ext.then_ B1 hb
  replace TAgr := TAgr.under hb TAgr.lt
  replace TAhr := TAhr.under hb TAhr.lt
  replace TX6 := TX6.under hb TX6.lt
  replace TX7 := TX7.under hb TX7.lt
  replace x6 := x6.ext hb
  replace x7 := x7.ext hb
  clear hb
  go_wp2_with fail
  have kTX7 := TX7.cell 0
  have kTAhr := TAhr.cell 0
  simp at kTX7 kTAhr
  have zz1 := TX7.lt
  have zz2 := TAhr.lt
  go_region_held3 (fun w' => w'.cell? ⟨w7.heap.size, 0, none⟩ = some (.slice A7 n_hr c7) ∧ w'.cell? ⟨W.heap.size + 1, 0, none⟩ = some (.slice Ahr n_hr chr))
    (first | ((go_split_ands; refine ⟨?_, ?_⟩ <;> exact (hb'.cell (p := ⟨_, _, none⟩) (by first | omega | (simp; omega) | simp)).trans (by assumption))) | go_keep)
    (first
      | (go_at_call 26; refine (TOhr.out _ (Ext.draw B1) Mhr.out).mono ?_; rintro e w11 ⟨A11, c11, vs11, rfl, x11, hb'⟩; have hs11 := hb'; have z11 : w10.heap.size ≤ w11.heap.size := hb'.size)
      | (go_at_call 28; refine (EXhr.out _ _ _ _ _ (x7.ext (Ext.undraw hb')).rd x11.rd Mhr.out).mono ?_; rintro e w12 ⟨rfl, hb'⟩))
  have hb := Ext.undraw (Ext.then_ hs11 hb')
  have z12 : w11.heap.size ≤ w12.heap.size := hb'.size
  clear x11 hs11 hb' zz1 zz2
  clear kTX7 kTAhr
  replace B1 := Ext.then_ B1 hb
  replace TAgr := TAgr.under hb TAgr.lt
  replace TAhr := TAhr.under hb TAhr.lt
  replace TX6 := TX6.under hb TX6.lt
  replace TX7 := TX7.under hb TX7.lt
  replace x6 := x6.ext hb
  replace x7 := x7.ext hb
  clear hb
  go_wp2_with fail
  go_ret
  exact ⟨rfl, B1⟩
end Go.Proofs.Ytkamkjbllmgifaa
