/- The law FnExactCountBelow, walked. -/
import Derived.Test.YtajepoopicoodaaShp
import Derived.Test.YtajepoopicoodaaCbl
namespace Go.Proofs.Ytajepoopicoodaa
open Go.RowKit

set_option maxRecDepth 100000 in
set_option maxHeartbeats 4000000 in
theorem walkCountBelow (W : World) (Agr : Option Addr) (cgr : Nat) (gr : List (List Int)) (hAgr : MatRdA W Agr gr) (hngr : gr.length ≤ maxLen) (hsgr : ∀ r ∈ gr, r.length ≤ maxLen) (lvl : Int) :
    Calls Try.prog 10 #[.agg #[.slice Agr gr.length cgr], .int .i64 lvl] W fun e w' => e = .returned (.bool true) ∧ Below W.heap.size W w' := by
  have SZgr := Lib.hid (fun (l0 : Nat) (hl : l0 ≤ 1048576) V (hb : Below W.heap.size W V) => greySz_any Agr cgr gr l0 hl V (hAgr.ext hb) hngr hsgr)
  have TOgr := Lib.hid (fun V (hb : Below W.heap.size W V) (hm : greySmall gr) => toGrey_any Agr cgr gr V (hAgr.ext hb) hm.1 hm.2.2)
  have EXgr := Lib.hid (fun (A B : Option Addr) (c d : Nat) V (h1 : MatRd V A gr) (h2 : MatRd V B gr) (hm : greySmall gr) => eqGrey_any A B c d gr V h1 h2 (by have := hm.1; omega) hm.row)
  have IM := Lib.hid (fun (A_gr : Option Addr) (c_gr : Nat) V (h_gr : MatRd V A_gr gr) (m_gr : greySmall gr) => countBelow_any A_gr c_gr gr lvl V h_gr (by have := m_gr.1; omega) m_gr.row)
  have SP := Lib.hid (fun (A_gr : Option Addr) (c_gr : Nat) V (h_gr : MatRd V A_gr gr) (m_gr : greySmall gr) => countBelowS_any A_gr c_gr gr lvl V h_gr (by have := m_gr.1; omega) m_gr.row)
  clear hAgr hngr hsgr
  generalize (cbV gr lvl) = R0 at *
  generalize (cbOk gr lvl) = R1 at *
  generalize gr.length = n_gr at *
  have B1 : Below W.heap.size W (W.alloc (.cells #[.slice Agr n_gr cgr] 24)) := Ext.more (Ext.refl _) _
  have TAgr : Blk (W.alloc (.cells #[.slice Agr n_gr cgr] 24)) (W.heap.size) 24 #[.slice Agr n_gr cgr] := Blk.made W 24 #[.slice Agr n_gr cgr]
  go_enter Try.func10, Try.ntmps10
  go_wp2_with fail
  refine (SZgr.out 1048576 (by omega) _ B1).mono ?_
  rintro e w1 ⟨⟨r1, rfl, hr1⟩, hb⟩
  replace B1 := Ext.then_ B1 hb
  replace TAgr := TAgr.under hb TAgr.lt
  clear hb
  by_cases h0 : r1 < 0
  · clear hr1
    go_wp2_with fail
    go_ret
    exact ⟨rfl, B1⟩
  obtain ⟨Mgr, l1, hl1, rfl⟩ : greySmall gr ∧ ∃ l : Nat, l ≤ 1048576 ∧ r1 = l := by
    rcases hr1 with h | h
    · exact absurd h h0
    · exact h
  replace Mgr := Lib.hid Mgr
  clear SZgr h0
  have kTAgr := TAgr.cell 0
  simp at kTAgr
  go_wp2_with fail
  have zW2 := B1.size
  have zTAgr2 := TAgr.lt
  refine (TOgr.out _ B1 Mgr.out).mono ?_
  rintro e w2 ⟨A2, c2, vs2, rfl, x2, hb⟩
  have z2 := hb.size
  clear kTAgr
  replace B1 := Ext.then_ B1 hb
  replace TAgr := TAgr.under hb TAgr.lt
  clear hb
  go_wp2_with fail
  refine (SP.out _ _ _ x2.rd Mgr.out).mono ?_
  rintro e w3 ⟨rfl, hb⟩
  have z3 := hb.size
  replace B1 := Ext.then_ B1 hb
  replace TAgr := TAgr.under hb TAgr.lt
  replace x2 := x2.ext hb
  clear hb
  clear x2
  have kTAgr := TAgr.cell 0
  simp at kTAgr
  go_wp2_with fail
  have zW4 := B1.size
  have zTAgr4 := TAgr.lt
  refine (TOgr.out _ B1 Mgr.out).mono ?_
  rintro e w4 ⟨A4, c4, vs4, rfl, x4, hb⟩
  have z4 := hb.size
  clear kTAgr
  have hbx := Ext.more hb (.cells #[.slice A4 n_gr c4] 31)
  replace B1 := Ext.then_ B1 hbx
  replace TAgr := TAgr.under hbx TAgr.lt
  have TX4 := Blk.made w4 31 #[.slice A4 n_gr c4]
  replace x4 := x4.ext (Ext.more (Ext.refl _) (.cells #[.slice A4 n_gr c4] 31))
  clear hb hbx
  have kTX4 := TX4.cell 0
  simp at kTX4
  go_wp2_with fail
  generalize w4.alloc (.cells #[.slice A4 n_gr c4] 31) = V4 at *
  have y4 := TX4.lt
  refine (IM.out _ _ _ x4.rd Mgr.out).mono ?_
  rintro e w5 ⟨rfl, hb⟩
  clear kTX4
  have z5 := hb.size
  replace B1 := Ext.then_ B1 hb
  replace TAgr := TAgr.under hb TAgr.lt
  replace TX4 := TX4.under hb TX4.lt
  replace x4 := x4.ext hb
  clear hb
  have q0 : (R0 != R0) = false := by simp
  have q1 : (R1 != R1) = false := by simp
  go_wp2_with fail
  have kTX4 := TX4.cell 0
  have kTAgr := TAgr.cell 0
  simp at kTX4 kTAgr
  have zz1 := TX4.lt
  have zz2 := TAgr.lt
  go_region_held3 (fun w' => w'.cell? ⟨w4.heap.size, 0, none⟩ = some (.slice A4 n_gr c4) ∧ w'.cell? ⟨W.heap.size, 0, none⟩ = some (.slice Agr n_gr cgr))
    (first | ((go_split_ands; refine ⟨?_, ?_⟩ <;> exact (hb'.cell (p := ⟨_, _, none⟩) (by first | omega | (simp; omega) | simp)).trans (by assumption))) | go_keep)
    (first
      | (go_at_call 17; refine (TOgr.out _ (Ext.draw B1) Mgr.out).mono ?_; rintro e w6 ⟨A6, c6, vs6, rfl, x6, hb'⟩; have hs6 := hb'; have z6 : w5.heap.size ≤ w6.heap.size := hb'.size)
      | (go_at_call 21; refine (EXgr.out _ _ _ _ _ (x4.ext (Ext.undraw hb')).rd x6.rd Mgr.out).mono ?_; rintro e w7 ⟨rfl, hb'⟩))
  have hb := Ext.undraw (Ext.then_ hs6 hb')
  have z7 : w6.heap.size ≤ w7.heap.size := hb'.size
  clear x6 hs6 hb' zz1 zz2
  clear kTX4 kTAgr
  replace B1 := Ext.then_ B1 hb
  replace TAgr := TAgr.under hb TAgr.lt
  replace TX4 := TX4.under hb TX4.lt
  replace x4 := x4.ext hb
  clear hb
  go_wp2_with fail
  go_ret
  exact ⟨rfl, B1⟩
end Go.Proofs.Ytajepoopicoodaa
