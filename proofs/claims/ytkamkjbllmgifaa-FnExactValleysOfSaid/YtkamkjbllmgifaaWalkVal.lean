/- The law FnExactValleysOf, walked. -/
import Derived.Test.YtkamkjbllmgifaaShp
import Derived.Test.YtkamkjbllmgifaaVlY
import Derived.Test.YtkamkjbllmgifaaMtq
namespace Go.Proofs.Ytkamkjbllmgifaa
open Go.RowKit

theorem ValRes.o {w w' : World} {R : List (List Int)} {ok : Bool} {e : Ending} (h : ValRes w R ok e w') : ∃ A c vs, e = .returned (.tuple #[.slice A R.length c, .bool ok]) ∧ MatAt w' w.heap.size w'.heap.size A c vs R ∧ Below w.heap.size w w' := h

set_option maxRecDepth 100000 in
set_option maxHeartbeats 4000000 in
theorem walkValleysOf (W : World) (Agr : Option Addr) (cgr : Nat) (gr : List (List Int)) (hAgr : MatRdA W Agr gr) (hngr : gr.length ≤ maxLen) (hsgr : ∀ r ∈ gr, r.length ≤ maxLen) :
    Calls Try.prog 6 #[.agg #[.slice Agr gr.length cgr]] W fun e w' => e = .returned (.bool true) ∧ Below W.heap.size W w' := by
  have SZgr := Lib.hid (fun (l0 : Nat) (hl : l0 ≤ 1048576) V (hb : Below W.heap.size W V) => greySz_any Agr cgr gr l0 hl V (hAgr.ext hb) hngr hsgr)
  have TOgr := Lib.hid (fun V (hb : Below W.heap.size W V) (hm : greySmall gr) => toGrey_any Agr cgr gr V (hAgr.ext hb) hm.1 hm.2.2)
  have EXgr := Lib.hid (fun (A B : Option Addr) (c d : Nat) V (h1 : MatRd V A gr) (h2 : MatRd V B gr) (hm : greySmall gr) => eqGrey_any A B c d gr V h1 h2 (by have := hm.1; omega) hm.row)
  have MXgr := Lib.hid (fun (lo hi : Nat) (A : Option Addr) (c : Nat) (vs : List Value) (k0 : Nat) (hk : k0 ≤ 2000000) V (h1 : MatAt V lo hi A c vs gr) (hm : greySmall gr) => markGrey_any lo hi A c vs gr k0 V h1 (by have := hm.1; omega) (by have := hm.2.1; omega) (by omega))
  have IM := Lib.hid (fun (A_gr : Option Addr) (c_gr : Nat) V (h_gr : MatRd V A_gr gr) (m_gr : greySmall gr) => (valleysOf_any A_gr c_gr gr V h_gr (by have := m_gr.1; omega) m_gr.row).mono (fun _ _ h => ValRes.o h))
  have SP := Lib.hid (fun (A_gr : Option Addr) (c_gr : Nat) V (h_gr : MatRd V A_gr gr) (m_gr : greySmall gr) => (valleysOfS_any A_gr c_gr gr V h_gr (by have := m_gr.1; omega) m_gr.row).mono (fun _ _ h => ValRes.o h))
  have hR0 : Hid ((valR gr).length ≤ 1048576 ∧ tot (valR gr) (valR gr).length ≤ 1048576 ∧ ∀ i (h : i < (valR gr).length), ((valR gr)[i]'h).length ≤ 1048576) := by
    exact valR_small gr

  clear hAgr hngr hsgr
  generalize (valR gr) = R0 at *
  generalize (greyOk gr) = R1 at *
  have ER0 := Lib.hid (fun (A B : Option Addr) (c d : Nat) V (h1 : MatRd V A R0) (h2 : MatRd V B R0) => matEq_any A B c d R0 V h1 h2 (by have := hR0.out.1; omega) (fun i h => by have := hR0.out.2.2 i h; omega))
  have MR0 := Lib.hid (fun (lo hi : Nat) (A : Option Addr) (c : Nat) (vs : List Value) V (h1 : MatAt V lo hi A c vs R0) => markMat_any lo hi A c vs R0 1 V h1 (by have := hR0.out.1; omega) (by have := hR0.out.2.1; omega) (by omega))
  have HR0 := Lib.hid (fun (A : Option Addr) (c : Nat) V (h1 : MatRd V A (mkRows 1 R0 R0.length)) => matHeld_any A c R0 1 V h1 (by have := hR0.out.1; omega) (by have := hR0.out.2.1; omega) (by omega))
  generalize mkRows 1 R0 R0.length = K0 at *
  have hC0 : Hid (tot R0 R0.length ≤ 1048576) := hR0.out.2.1
  clear hR0
  generalize tot R0 R0.length = m0 at *
  generalize R0.length = n_R0 at *
  generalize tot gr gr.length = t_gr at *
  generalize gr.length = n_gr at *
  have B1 : Below W.heap.size W (W.alloc (.cells #[.slice Agr n_gr cgr] 47)) := Ext.more (Ext.refl _) _
  have TAgr : Blk (W.alloc (.cells #[.slice Agr n_gr cgr] 47)) (W.heap.size) 47 #[.slice Agr n_gr cgr] := Blk.made W 47 #[.slice Agr n_gr cgr]
  go_enter Try.func6, Try.ntmps6
  go_wp2_with fail
  refine (SZgr.out 1048576 (by omega) _ B1).mono ?_
  rintro e w1 ⟨⟨r1, rfl, hr1⟩, hb⟩
  replace B1 := Ext.then_ B1 hb
  replace TAgr := TAgr.under hb TAgr.lt
  clear hb
  by_cases h0 : r1 < 0
  · clear hr1
    go_wp2_with fail
    go_ret
    exact ⟨rfl, B1⟩
  obtain ⟨Mgr, l1, hl1, rfl⟩ : greySmall gr ∧ ∃ l : Nat, l ≤ 1048576 ∧ r1 = l := by
    rcases hr1 with h | h
    · exact absurd h h0
    · exact h
  replace Mgr := Lib.hid Mgr
  clear SZgr h0
  have kTAgr := TAgr.cell 0
  simp at kTAgr
  go_wp2_with fail
  have zW2 := B1.size
  have zTAgr2 := TAgr.lt
  refine (TOgr.out _ B1 Mgr.out).mono ?_
  rintro e w2 ⟨A2, c2, vs2, rfl, x2, hb⟩
  have z2 := hb.size
  clear kTAgr
  replace B1 := Ext.then_ B1 hb
  replace TAgr := TAgr.under hb TAgr.lt
  clear hb
  go_wp2_with fail
  refine (SP.out _ _ _ x2.rd Mgr.out).mono ?_
  rintro e w3 ⟨A3_0, c3_0, vs3_0, rfl, o3_0, hb⟩
  have z3 := hb.size
  replace B1 := Ext.then_ B1 hb
  replace TAgr := TAgr.under hb TAgr.lt
  replace x2 := x2.ext hb
  clear hb
  clear x2
  have kTAgr := TAgr.cell 0
  simp at kTAgr
  go_wp2_with fail
  have zW4 := B1.size
  have zTAgr4 := TAgr.lt
  refine (TOgr.out _ B1 Mgr.out).mono ?_
  rintro e w4 ⟨A4, c4, vs4, rfl, x4, hb⟩
  have z4 := hb.size
  clear kTAgr
  have hbx := Ext.more hb (.cells #[.slice A4 n_gr c4] 26)
  replace B1 := Ext.then_ B1 hbx
  replace TAgr := TAgr.under hbx TAgr.lt
  replace o3_0 := o3_0.ext hbx
  have TX4 := Blk.made w4 26 #[.slice A4 n_gr c4]
  replace x4 := x4.ext (Ext.more (Ext.refl _) (.cells #[.slice A4 n_gr c4] 26))
  clear hb hbx
  have kTX4 := TX4.cell 0
  simp at kTX4
  go_wp2_with fail
  generalize w4.alloc (.cells #[.slice A4 n_gr c4] 26) = V4 at *
  have y4 := TX4.lt
  refine (IM.out _ _ _ x4.rd Mgr.out).mono ?_
  rintro e w5 ⟨A5_0, c5_0, vs5_0, rfl, o5_0, hb⟩
  clear kTX4
  have z5 := hb.size
  replace B1 := Ext.then_ B1 hb
  replace TAgr := TAgr.under hb TAgr.lt
  replace TX4 := TX4.under hb TX4.lt
  replace o3_0 := o3_0.ext hb
  replace x4 := x4.ext hb
  clear hb
  have q1 : (R1 != R1) = false := by simp
  go_wp2_with fail
  refine (ER0.out _ _ _ _ _ o5_0.rd o3_0.rd).mono ?_
  rintro e w6 ⟨rfl, hb⟩
  have z6 := hb.size
  replace B1 := Ext.then_ B1 hb
  replace TAgr := TAgr.under hb TAgr.lt
  replace TX4 := TX4.under hb TX4.lt
  replace o3_0 := o3_0.ext hb
  replace x4 := x4.ext hb
  replace o5_0 := o5_0.ext hb
  clear hb
  go_wp2_with fail
  have kTX4 := TX4.cell 0
  have kTAgr := TAgr.cell 0
  simp at kTX4 kTAgr
  have zz1 := TX4.lt
  have zz2 := TAgr.lt
  go_region_held3 (fun w' => w'.cell? ⟨w4.heap.size, 0, none⟩ = some (.slice A4 n_gr c4) ∧ w'.cell? ⟨W.heap.size, 0, none⟩ = some (.slice Agr n_gr cgr))
    (first | ((go_split_ands; refine ⟨?_, ?_⟩ <;> exact (hb'.cell (p := ⟨_, _, none⟩) (by first | omega | (simp; omega) | simp)).trans (by assumption))) | go_keep)
    (first
      | (go_at_call 26; refine (TOgr.out _ (Ext.draw B1) Mgr.out).mono ?_; rintro e w7 ⟨A7, c7, vs7, rfl, x7, hb'⟩; have hs7 := hb'; have z7 : w6.heap.size ≤ w7.heap.size := hb'.size)
      | (go_at_call 28; refine (EXgr.out _ _ _ _ _ (x4.ext (Ext.undraw hb')).rd x7.rd Mgr.out).mono ?_; rintro e w8 ⟨rfl, hb'⟩))
  have hb := Ext.undraw (Ext.then_ hs7 hb')
  have z8 : w7.heap.size ≤ w8.heap.size := hb'.size
  clear x7 hs7 hb' zz1 zz2
  clear kTX4 kTAgr
  replace B1 := Ext.then_ B1 hb
  replace TAgr := TAgr.under hb TAgr.lt
  replace TX4 := TX4.under hb TX4.lt
  replace o3_0 := o3_0.ext hb
  replace x4 := x4.ext hb
  replace o5_0 := o5_0.ext hb
  clear hb
  have kTX4 := TX4.cell 0
  simp at kTX4
  go_wp2_with fail
  refine (MXgr.out _ _ _ _ _ (1) (by omega) _ x4 Mgr.out).mono ?_
  rintro e w9 ⟨rfl, x4', ch⟩
  clear kTX4
  replace B1 := B1.trans (ch.below (fun k hk => by have := hk.1; have := B1.size; omega) B1.size)
  replace TAgr := ch.blk TAgr (fun h => by have := h.1; have := h.2; omega)
  replace TX4 := ch.blk TX4 (fun h => by have := h.1; have := h.2; omega)
  replace o3_0 := o3_0.keep ch (fun b h1 h2 h => by have := h.1; have := h.2; omega)
  replace o5_0 := o5_0.keep ch (fun b h1 h2 h => by have := h.1; have := h.2; omega)
  have z9 := ch.size
  clear ch x4'
  clear x4
  clear TX4
  have p0 : ¬ ((1 + t_gr : Nat) : Int) < 0 := by omega
  go_wp2_with fail
  refine (ER0.out _ _ _ _ _ o5_0.rd o3_0.rd).mono ?_
  rintro e w10 ⟨rfl, hb⟩
  have z10 := hb.size
  replace B1 := Ext.then_ B1 hb
  replace TAgr := TAgr.under hb TAgr.lt
  replace o3_0 := o3_0.ext hb
  replace o5_0 := o5_0.ext hb
  clear hb
  clear p0
  go_wp2_with fail
  refine (MR0.out _ _ _ _ _ _ o5_0).mono ?_
  rintro e w11 ⟨rfl, om, ch⟩
  replace B1 := B1.trans (ch.below (fun k hk => by have := hk.1; have := B1.size; omega) B1.size)
  replace TAgr := ch.blk TAgr (fun h => by have := h.1; have := h.2; omega)
  replace o3_0 := o3_0.keep ch (fun b h1 h2 h => by have := h.1; have := h.2; omega)
  have z11 := ch.size
  clear ch
  clear o5_0
  go_wp2_with fail
  refine (HR0.out _ _ _ om.rd).mono ?_
  rintro e w12 ⟨rfl, hb⟩
  have z12 := hb.size
  replace B1 := Ext.then_ B1 hb
  replace TAgr := TAgr.under hb TAgr.lt
  replace o3_0 := o3_0.ext hb
  replace om := om.ext hb
  clear hb
  have p0 : ¬ ((1 + m0 : Nat) : Int) < 0 := by omega
  have p1 : (((1 + m0 : Nat) : Int) != ((1 + m0 : Nat) : Int)) = false := by simp
  have kTAgr := TAgr.cell 0
  simp at kTAgr
  go_wp2_with fail
  have zW13 := B1.size
  have zTAgr13 := TAgr.lt
  refine (TOgr.out _ B1 Mgr.out).mono ?_
  rintro e w13 ⟨A13, c13, vs13, rfl, x13, hb⟩
  have z13 := hb.size
  clear kTAgr
  replace B1 := Ext.then_ B1 hb
  replace TAgr := TAgr.under hb TAgr.lt
  replace o3_0 := o3_0.ext hb
  replace om := om.ext hb
  clear hb
  go_wp2_with fail
  refine (IM.out _ _ _ x13.rd Mgr.out).mono ?_
  rintro e w14 ⟨A14_0, c14_0, vs14_0, rfl, o14_0, hb⟩
  have z14 := hb.size
  replace B1 := Ext.then_ B1 hb
  replace TAgr := TAgr.under hb TAgr.lt
  replace o3_0 := o3_0.ext hb
  replace om := om.ext hb
  replace x13 := x13.ext hb
  clear hb
  clear x13
  go_wp2_with fail
  refine (ER0.out _ _ _ _ _ o14_0.rd o3_0.rd).mono ?_
  rintro e w15 ⟨rfl, hb⟩
  have z15 := hb.size
  replace B1 := Ext.then_ B1 hb
  replace TAgr := TAgr.under hb TAgr.lt
  replace o3_0 := o3_0.ext hb
  replace om := om.ext hb
  replace o14_0 := o14_0.ext hb
  clear hb
  go_wp2_with fail
  refine (HR0.out _ _ _ om.rd).mono ?_
  rintro e w16 ⟨rfl, hb⟩
  have z16 := hb.size
  replace B1 := Ext.then_ B1 hb
  replace TAgr := TAgr.under hb TAgr.lt
  replace o3_0 := o3_0.ext hb
  replace om := om.ext hb
  replace o14_0 := o14_0.ext hb
  clear hb
  go_wp2_with fail
  go_ret
  exact ⟨rfl, B1⟩
end Go.Proofs.Ytkamkjbllmgifaa
