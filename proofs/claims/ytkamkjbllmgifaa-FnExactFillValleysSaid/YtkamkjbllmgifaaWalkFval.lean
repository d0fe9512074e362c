/- The law FnExactFillValleys, walked. -/
import Derived.Test.YtkamkjbllmgifaaShp
import Derived.Test.YtkamkjbllmgifaaVlG
namespace Go.Proofs.Ytkamkjbllmgifaa
open Go.RowKit

theorem FilRes.o {w w' : World} {R : List (List Int)} {ok : Bool} {e : Ending} (h : FilRes w R ok e w') : ∃ A c vs, e = .returned (.tuple #[.agg #[.slice A R.length c], .bool ok]) ∧ MatAt w' w.heap.size w'.heap.size A c vs R ∧ Below w.heap.size w w' := h
theorem tot_gOv (O : Nat → Int) (W H : Nat) : ∀ k, k ≤ H → tot (gO O W H) k = k * W := by
  intro k
  induction k with
  | zero => intro _; simp [tot_zero]
  | succ k ih => intro h; rw [tot_succ (by rw [gO_length]; omega), ih (by omega), gO_w, Nat.succ_mul]
theorem fillV_small (gr : List (List Int)) (dp : Int) : (fillV gr dp).length ≤ 1048576 ∧ tot (fillV gr dp) (fillV gr dp).length ≤ 1048576 ∧ ∀ i (h : i < (fillV gr dp).length), (fillV gr dp)[i].length ≤ 1048576 := by
  have key : ∀ (R : List (List Int)), (R = [] ∨ ∃ O W H, R = gO O W H ∧ W ≤ 16 ∧ H ≤ 16) → R.length ≤ 1048576 ∧ tot R R.length ≤ 1048576 ∧ ∀ i (h : i < R.length), R[i].length ≤ 1048576 := by
    rintro R (rfl | ⟨O, W, H, rfl, hW, hH⟩)
    · simp [tot]
    · refine ⟨by rw [gO_length]; omega, ?_, fun i hi => by rw [gO_w]; omega⟩
      rw [gO_length, tot_gOv O W H H (Nat.le_refl _)]
      exact Nat.le_trans (Nat.mul_le_mul hH hW) (by decide)
  refine key _ ?_
  unfold fillV
  by_cases hp : fillOk gr dp = true
  · rw [if_pos hp]
    have h2 : greyOk gr = true := by unfold fillOk at hp; simp only [Bool.and_eq_true] at hp; exact hp.1
    obtain ⟨s1, s2, s3, s4⟩ := tab_sizes h2
    exact .inr ⟨_, _, _, rfl, by omega, by omega⟩
  · rw [if_neg hp]; exact .inl rfl

set_option maxRecDepth 100000 in
set_option maxHeartbeats 4000000 in
theorem walkFillValleys (W : World) (Agr : Option Addr) (cgr : Nat) (gr : List (List Int)) (hAgr : MatRdA W Agr gr) (hngr : gr.length ≤ maxLen) (hsgr : ∀ r ∈ gr, r.length ≤ maxLen) (dp : Int) :
    Calls Try.prog 8 #[.agg #[.slice Agr gr.length cgr], .int .i64 dp] W fun e w' => e = .returned (.bool true) ∧ Below W.heap.size W w' := by
  have SZgr := Lib.hid (fun (l0 : Nat) (hl : l0 ≤ 1048576) V (hb : Below W.heap.size W V) => greySz_any Agr cgr gr l0 hl V (hAgr.ext hb) hngr hsgr)
  have TOgr := Lib.hid (fun V (hb : Below W.heap.size W V) (hm : greySmall gr) => toGrey_any Agr cgr gr V (hAgr.ext hb) hm.1 hm.2.2)
  have EXgr := Lib.hid (fun (A B : Option Addr) (c d : Nat) V (h1 : MatRd V A gr) (h2 : MatRd V B gr) (hm : greySmall gr) => eqGrey_any A B c d gr V h1 h2 (by have := hm.1; omega) hm.row)
  have MXgr := Lib.hid (fun (lo hi : Nat) (A : Option Addr) (c : Nat) (vs : List Value) (k0 : Nat) (hk : k0 ≤ 2000000) V (h1 : MatAt V lo hi A c vs gr) (hm : greySmall gr) => markGrey_any lo hi A c vs gr k0 V h1 (by have := hm.1; omega) (by have := hm.2.1; omega) (by omega))
  have IM := Lib.hid (fun (A_gr : Option Addr) (c_gr : Nat) V (h_gr : MatRd V A_gr gr) (m_gr : greySmall gr) => (fillVal_any A_gr c_gr gr dp V h_gr (by have := m_gr.1; omega) m_gr.row).mono (fun _ _ h => FilRes.o h))
  have SP := Lib.hid (fun (A_gr : Option Addr) (c_gr : Nat) V (h_gr : MatRd V A_gr gr) (m_gr : greySmall gr) => (fillValS_any A_gr c_gr gr dp V h_gr (by have := m_gr.1; omega) m_gr.row).mono (fun _ _ h => FilRes.o h))
  have hR0 : Hid ((fillV gr dp).length ≤ 1048576 ∧ tot (fillV gr dp) (fillV gr dp).length ≤ 1048576 ∧ ∀ i (h : i < (fillV gr dp).length), ((fillV gr dp)[i]'h).length ≤ 1048576) := by
    exact fillV_small gr dp

  clear hAgr hngr hsgr
  generalize (fillV gr dp) = R0 at *
  generalize (fillOk gr dp) = R1 at *
  have ER0 := Lib.hid (fun (A B : Option Addr) (c d : Nat) V (h1 : MatRd V A R0) (h2 : MatRd V B R0) => eqGrey_any A B c d R0 V h1 h2 (by have := hR0.out.1; omega) (fun i h => by have := hR0.out.2.2 i h; omega))
  have MR0 := Lib.hid (fun (lo hi : Nat) (A : Option Addr) (c : Nat) (vs : List Value) V (h1 : MatAt V lo hi A c vs R0) => markGrey_any lo hi A c vs R0 1 V h1 (by have := hR0.out.1; omega) (by have := hR0.out.2.1; omega) (by omega))
  have HR0 := Lib.hid (fun (A : Option Addr) (c : Nat) V (h1 : MatRd V A (mkRows 1 R0 R0.length)) => heldGrey_any A c R0 1 V h1 (by have := hR0.out.1; omega) (by have := hR0.out.2.1; omega) (by omega))
  generalize mkRows 1 R0 R0.length = K0 at *
  have hC0 : Hid (tot R0 R0.length ≤ 1048576) := hR0.out.2.1
  clear hR0
  generalize tot R0 R0.length = m0 at *
  generalize R0.length = n_R0 at *
  generalize tot gr gr.length = t_gr at *
  generalize gr.length = n_gr at *
  have B1 : Below W.heap.size W (W.alloc (.cells #[.slice Agr n_gr cgr] 47)) := Ext.more (Ext.refl _) _
  have TAgr : Blk (W.alloc (.cells #[.slice Agr n_gr cgr] 47)) (W.heap.size) 47 #[.slice Agr n_gr cgr] := Blk.made W 47 #[.slice Agr n_gr cgr]
  go_enter Try.func8, Try.ntmps8
  go_wp2_with fail
  refine (SZgr.out 1048576 (by omega) _ B1).mono ?_
  rintro e w1 ⟨⟨r1, rfl, hr1⟩, hb⟩
  replace B1 := Ext.then_ B1 hb
  replace TAgr := TAgr.under hb TAgr.lt
  clear hb
  by_cases h0 : r1 < 0
  · clear hr1
    go_wp2_with fail
    go_ret
    exact ⟨rfl, B1⟩
  obtain ⟨Mgr, l1, hl1, rfl⟩ : greySmall gr ∧ ∃ l : Nat, l ≤ 1048576 ∧ r1 = l := by
    rcases hr1 with h | h
    · exact absurd h h0
    · exact h
  replace Mgr := Lib.hid Mgr
  clear SZgr h0
  have kTAgr := TAgr.cell 0
  simp at kTAgr
  go_wp2_with fail
  have zW2 := B1.size
  have zTAgr2 := TAgr.lt
  refine (TOgr.out _ B1 Mgr.out).mono ?_
  rintro e w2 ⟨A2, c2, vs2, rfl, x2, hb⟩
  have z2 := hb.size
  clear kTAgr
  replace B1 := Ext.then_ B1 hb
  replace TAgr := TAgr.under hb TAgr.lt
  clear hb
  go_wp2_with fail
  refine (SP.out _ _ _ x2.rd Mgr.out).mono ?_
  rintro e w3 ⟨A3_0, c3_0, vs3_0, rfl, o3_0, hb⟩
  have z3 := hb.size
  have hbx := (Ext.more hb (.cells #[.slice A3_0 n_R0 c3_0] 26))
  replace B1 := Ext.then_ B1 hbx
  replace TAgr := TAgr.under hbx TAgr.lt
  replace x2 := x2.ext hbx
  have TR3_0 := Blk.made w3 26 #[.slice A3_0 n_R0 c3_0]
  replace o3_0 := o3_0.ext (Ext.more (Ext.refl _) (.cells #[.slice A3_0 n_R0 c3_0] 26))
  clear hb hbx
  clear x2
  have kTAgr := TAgr.cell 0
  simp at kTAgr
  go_wp2_with fail
  generalize w3.alloc (.cells #[.slice A3_0 n_R0 c3_0] 26) = V3 at *
  have y3 := TR3_0.lt
  have zW4 := B1.size
  have zTAgr4 := TAgr.lt
  refine (TOgr.out _ B1 Mgr.out).mono ?_
  rintro e w4 ⟨A4, c4, vs4, rfl, x4, hb⟩
  have z4 := hb.size
  clear kTAgr
  have hbx := Ext.more hb (.cells #[.slice A4 n_gr c4] 26)
  replace B1 := Ext.then_ B1 hbx
  replace TAgr := TAgr.under hbx TAgr.lt
  replace TR3_0 := TR3_0.under hbx TR3_0.lt
  replace o3_0 := o3_0.ext hbx
  have TX4 := Blk.made w4 26 #[.slice A4 n_gr c4]
  replace x4 := x4.ext (Ext.more (Ext.refl _) (.cells #[.slice A4 n_gr c4] 26))
  clear hb hbx
  have kTX4 := TX4.cell 0
  simp at kTX4
  go_wp2_with fail
  generalize w4.alloc (.cells #[.slice A4 n_gr c4] 26) = V4 at *
  have y4 := TX4.lt
  refine (IM.out _ _ _ x4.rd Mgr.out).mono ?_
  rintro e w5 ⟨A5_0, c5_0, vs5_0, rfl, o5_0, hb⟩
  clear kTX4
  have z5 := hb.size
  have hbx := (Ext.more hb (.cells #[.slice A5_0 n_R0 c5_0] 26))
  replace B1 := Ext.then_ B1 hbx
  replace TAgr := TAgr.under hbx TAgr.lt
  replace TR3_0 := TR3_0.under hbx TR3_0.lt
  replace TX4 := TX4.under hbx TX4.lt
  replace o3_0 := o3_0.ext hbx
  replace x4 := x4.ext hbx
  have TR5_0 := Blk.made w5 26 #[.slice A5_0 n_R0 c5_0]
  replace o5_0 := o5_0.ext (Ext.more (Ext.refl _) (.cells #[.slice A5_0 n_R0 c5_0] 26))
  clear hb hbx
  have kTR5_0 := TR5_0.cell 0
  have kTR3_0 := TR3_0.cell 0
  simp at kTR5_0 kTR3_0
  have q1 : (R1 != R1) = false := by simp
  go_wp2_with fail
  generalize w5.alloc (.cells #[.slice A5_0 n_R0 c5_0] 26) = V5 at *
  have y5 := TR5_0.lt
  refine (ER0.out _ _ _ _ _ o5_0.rd o3_0.rd).mono ?_
  rintro e w6 ⟨rfl, hb⟩
  clear kTR5_0 kTR3_0
  have z6 := hb.size
  replace B1 := Ext.then_ B1 hb
  replace TAgr := TAgr.under hb TAgr.lt
  replace TR3_0 := TR3_0.under hb TR3_0.lt
  replace TX4 := TX4.under hb TX4.lt
  replace TR5_0 := TR5_0.under hb TR5_0.lt
  replace o3_0 := o3_0.ext hb
  replace x4 := x4.ext hb
  replace o5_0 := o5_0.ext hb
  clear hb
  go_wp2_with fail
  have kTX4 := TX4.cell 0
  have kTAgr := TAgr.cell 0
  simp at kTX4 kTAgr
  have zz1 := TX4.lt
  have zz2 := TAgr.lt
  go_region_held3 (fun w' => w'.cell? ⟨w4.heap.size, 0, none⟩ = some (.slice A4 n_gr c4) ∧ w'.cell? ⟨W.heap.size, 0, none⟩ = some (.slice Agr n_gr cgr))
    (first | ((go_split_ands; refine ⟨?_, ?_⟩ <;> exact (hb'.cell (p := ⟨_, _, none⟩) (by first | omega | (simp; omega) | simp)).trans (by assumption))) | go_keep)
    (first
      | (go_at_call 26; refine (TOgr.out _ (Ext.draw B1) Mgr.out).mono ?_; rintro e w7 ⟨A7, c7, vs7, rfl, x7, hb'⟩; have hs7 := hb'; have z7 : w6.heap.size ≤ w7.heap.size := hb'.size)
      | (go_at_call 28; refine (EXgr.out _ _ _ _ _ (x4.ext (Ext.undraw hb')).rd x7.rd Mgr.out).mono ?_; rintro e w8 ⟨rfl, hb'⟩))
  have hb := Ext.undraw (Ext.then_ hs7 hb')
  have z8 : w7.heap.size ≤ w8.heap.size := hb'.size
  clear x7 hs7 hb' zz1 zz2
  clear kTX4 kTAgr
  replace B1 := Ext.then_ B1 hb
  replace TAgr := TAgr.under hb TAgr.lt
  replace TR3_0 := TR3_0.under hb TR3_0.lt
  replace TX4 := TX4.under hb TX4.lt
  replace TR5_0 := TR5_0.under hb TR5_0.lt
  replace o3_0 := o3_0.ext hb
  replace x4 := x4.ext hb
  replace o5_0 := o5_0.ext hb
  clear hb
  have kTX4 := TX4.cell 0
  simp at kTX4
  go_wp2_with fail
  refine (MXgr.out _ _ _ _ _ (1) (by omega) _ x4 Mgr.out).mono ?_
  rintro e w9 ⟨rfl, x4', ch⟩
  clear kTX4
  replace B1 := B1.trans (ch.below (fun k hk => by have := hk.1; have := B1.size; omega) B1.size)
  replace TAgr := ch.blk TAgr (fun h => by have := h.1; have := h.2; omega)
  replace TR3_0 := ch.blk TR3_0 (fun h => by have := h.1; have := h.2; omega)
  replace TX4 := ch.blk TX4 (fun h => by have := h.1; have := h.2; omega)
  replace TR5_0 := ch.blk TR5_0 (fun h => by have := h.1; have := h.2; omega)
  replace o3_0 := o3_0.keep ch (fun b h1 h2 h => by have := h.1; have := h.2; omega)
  replace o5_0 := o5_0.keep ch (fun b h1 h2 h => by have := h.1; have := h.2; omega)
  have z9 := ch.size
  clear ch x4'
  clear x4
  clear TX4
  have kTR5_0 := TR5_0.cell 0
  have kTR3_0 := TR3_0.cell 0
  simp at kTR5_0 kTR3_0
  have p0 : ¬ ((1 + t_gr : Nat) : Int) < 0 := by omega
  go_wp2_with fail
  refine (ER0.out _ _ _ _ _ o5_0.rd o3_0.rd).mono ?_
  rintro e w10 ⟨rfl, hb⟩
  clear kTR5_0 kTR3_0
  have z10 := hb.size
  replace B1 := Ext.then_ B1 hb
  replace TAgr := TAgr.under hb TAgr.lt
  replace TR3_0 := TR3_0.under hb TR3_0.lt
  replace TR5_0 := TR5_0.under hb TR5_0.lt
  replace o3_0 := o3_0.ext hb
  replace o5_0 := o5_0.ext hb
  clear hb
  clear p0
  have kTR5_0 := TR5_0.cell 0
  simp at kTR5_0
  go_wp2_with fail
  refine (MR0.out _ _ _ _ _ _ o5_0).mono ?_
  rintro e w11 ⟨rfl, om, ch⟩
  clear kTR5_0
  replace B1 := B1.trans (ch.below (fun k hk => by have := hk.1; have := B1.size; omega) B1.size)
  replace TAgr := ch.blk TAgr (fun h => by have := h.1; have := h.2; omega)
  replace TR3_0 := ch.blk TR3_0 (fun h => by have := h.1; have := h.2; omega)
  replace TR5_0 := ch.blk TR5_0 (fun h => by have := h.1; have := h.2; omega)
  replace o3_0 := o3_0.keep ch (fun b h1 h2 h => by have := h.1; have := h.2; omega)
  have z11 := ch.size
  clear ch
  clear o5_0
  have kTR5_0 := TR5_0.cell 0
  simp at kTR5_0
  go_wp2_with fail
  refine (HR0.out _ _ _ om.rd).mono ?_
  rintro e w12 ⟨rfl, hb⟩
  clear kTR5_0
  have z12 := hb.size
  replace B1 := Ext.then_ B1 hb
  replace TAgr := TAgr.under hb TAgr.lt
  replace TR3_0 := TR3_0.under hb TR3_0.lt
  replace TR5_0 := TR5_0.under hb TR5_0.lt
  replace o3_0 := o3_0.ext hb
  replace om := om.ext hb
  clear hb
  have p0 : ¬ ((1 + m0 : Nat) : Int) < 0 := by omega
  have p1 : (((1 + m0 : Nat) : Int) != ((1 + m0 : Nat) : Int)) = false := by simp
  have kTAgr := TAgr.cell 0
  simp at kTAgr
  go_wp2_with fail
  have zW13 := B1.size
  have zTAgr13 := TAgr.lt
  refine (TOgr.out _ B1 Mgr.out).mono ?_
  rintro e w13 ⟨A13, c13, vs13, rfl, x13, hb⟩
  have z13 := hb.size
  clear kTAgr
  replace B1 := Ext.then_ B1 hb
  replace TAgr := TAgr.under hb TAgr.lt
  replace TR3_0 := TR3_0.under hb TR3_0.lt
  replace TR5_0 := TR5_0.under hb TR5_0.lt
  replace o3_0 := o3_0.ext hb
  replace om := om.ext hb
  clear hb
  go_wp2_with fail
  refine (IM.out _ _ _ x13.rd Mgr.out).mono ?_
  rintro e w14 ⟨A14_0, c14_0, vs14_0, rfl, o14_0, hb⟩
  have z14 := hb.size
  have hbx := (Ext.more hb (.cells #[.slice A14_0 n_R0 c14_0] 26))
  replace B1 := Ext.then_ B1 hbx
  replace TAgr := TAgr.under hbx TAgr.lt
  replace TR3_0 := TR3_0.under hbx TR3_0.lt
  replace TR5_0 := TR5_0.under hbx TR5_0.lt
  replace o3_0 := o3_0.ext hbx
  replace om := om.ext hbx
  replace x13 := x13.ext hbx
  have TR14_0 := Blk.made w14 26 #[.slice A14_0 n_R0 c14_0]
  replace o14_0 := o14_0.ext (Ext.more (Ext.refl _) (.cells #[.slice A14_0 n_R0 c14_0] 26))
  clear hb hbx
  clear x13
  have kTR14_0 := TR14_0.cell 0
  have kTR3_0 := TR3_0.cell 0
  simp at kTR14_0 kTR3_0
  go_wp2_with fail
  generalize w14.alloc (.cells #[.slice A14_0 n_R0 c14_0] 26) = V14 at *
  have y14 := TR14_0.lt
  refine (ER0.out _ _ _ _ _ o14_0.rd o3_0.rd).mono ?_
  rintro e w15 ⟨rfl, hb⟩
  clear kTR14_0 kTR3_0
  have z15 := hb.size
  replace B1 := Ext.then_ B1 hb
  replace TAgr := TAgr.under hb TAgr.lt
  replace TR3_0 := TR3_0.under hb TR3_0.lt
  replace TR5_0 := TR5_0.under hb TR5_0.lt
  replace TR14_0 := TR14_0.under hb TR14_0.lt
  replace o3_0 := o3_0.ext hb
  replace om := om.ext hb
  replace o14_0 := o14_0.ext hb
  clear hb
  have kTR5_0 := TR5_0.cell 0
  simp at kTR5_0
  go_wp2_with fail
  refine (HR0.out _ _ _ om.rd).mono ?_
  rintro e w16 ⟨rfl, hb⟩
  clear kTR5_0
  have z16 := hb.size
  replace B1 := Ext.then_ B1 hb
  replace TAgr := TAgr.under hb TAgr.lt
  replace TR3_0 := TR3_0.under hb TR3_0.lt
  replace TR5_0 := TR5_0.under hb TR5_0.lt
  replace TR14_0 := TR14_0.under hb TR14_0.lt
  replace o3_0 := o3_0.ext hb
  replace om := om.ext hb
  replace o14_0 := o14_0.ext hb
  clear hb
  go_wp2_with fail
  go_ret
  exact ⟨rfl, B1⟩
end Go.Proofs.Ytkamkjbllmgifaa
