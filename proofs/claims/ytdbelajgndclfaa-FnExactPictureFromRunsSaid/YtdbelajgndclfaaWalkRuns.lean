/- The law FnExactPictureFromRuns, walked. -/
import Derived.Test.YtdbelajgndclfaaShp
import Derived.Test.YtdbelajgndclfaaRunsS
namespace Go.Proofs.Ytdbelajgndclfaa
open Go.RowKit

set_option maxRecDepth 100000 in
set_option maxHeartbeats 4000000 in
theorem walkPictureFromRuns (W : World) (cv : Int) (od : Int) (Ars : Option Addr) (crs : Nat) (rs : List Int) (hArs : RdA W Ars (ints rs)) (hnrs : rs.length ≤ maxLen) :
    Calls Try.prog 12 #[.int .i64 cv, .int .i64 od, .slice Ars rs.length crs] W fun e w' => e = .returned (.bool true) ∧ Below W.heap.size W w' := by
  have TOrs := Lib.hid (fun V (hb : Below W.heap.size W V) (hm : intsSmall rs) => intsTo_any Ars crs rs V (hArs.ext hb) hm)
  have EXrs := Lib.hid (fun (A B : Option Addr) (c d : Nat) V (h1 : Rd V A (ints rs)) (h2 : Rd V B (ints rs)) (hm : intsSmall rs) => intsEq_any A B c d rs V h1 h2 (by unfold intsSmall at hm; omega))
  have MXrs := Lib.hid (fun (lo hi : Nat) (A : Option Addr) (c : Nat) (k0 : Nat) (h0 : 0 < k0) (hk : k0 ≤ 2000000) V (h1 : IntsO V lo hi A c rs) (hm : intsSmall rs) => intsMark_any lo hi A c rs k0 V h1 (by unfold intsSmall at hm; omega) (by omega))
  have IM := Lib.hid (fun (A_rs : Option Addr) (c_rs : Nat) V (h_rs : Rd V A_rs (ints rs)) (m_rs : intsSmall rs) => (fromRuns_any cv od A_rs c_rs rs V h_rs m_rs).mono (fun _ _ h => PicRes.o h))
  have SP := Lib.hid (fun (A_rs : Option Addr) (c_rs : Nat) V (h_rs : Rd V A_rs (ints rs)) (m_rs : intsSmall rs) => (fromRunsS_any cv od A_rs c_rs rs V h_rs m_rs).mono (fun _ _ h => PicRes.o h))
  have hR0 : Hid ((if frOk cv od rs then rowsTo (frPic cv od rs) (side od).toNat (side od).toNat else []).length ≤ 1048576) := by
    by_cases hp : frOk cv od rs = true
    · rw [if_pos hp, Hid, rowsTo_length]
      have h1 : curveOkB cv od = true := by simp only [frOk, Bool.and_eq_true] at hp; exact hp.1
      obtain ⟨_, o0, o4⟩ := curveOk_iff.1 h1
      have := side_le o0 o4
      omega
    · rw [if_neg hp]; exact Nat.zero_le _

  have HMrs : Hid (rs.length ≤ 1048576 → intsSmall rs) := fun h => h
  unfold maxLen at hnrs
  clear hArs
  generalize (if frOk cv od rs then rowsTo (frPic cv od rs) (side od).toNat (side od).toNat else []) = R0 at *
  generalize (frOk cv od rs) = R1 at *
  have ER0 := Lib.hid (fun (A B : Option Addr) (c d : Nat) V (h1 : Rd V A (strs R0)) (h2 : Rd V B (strs R0)) => eqPic_any A B c d R0 V h1 h2 (by have := hR0.out; omega))
  have MR0 := Lib.hid (fun (lo hi : Nat) (A : Option Addr) (c : Nat) V (h1 : PicO V lo hi A c R0) => picMark_any lo hi A c R0 1 (by omega) V h1 (by have := hR0.out; omega) (by omega))
  have HR0 := Lib.hid (fun (A : Option Addr) (c : Nat) V (h1 : Rd V A (strs (markSs 1 R0.length))) => heldPic_any A c R0.length 1 (by omega) V h1 (by have := hR0.out; omega) (by omega))
  generalize markSs 1 R0.length = K0 at *
  have hC0 : Hid (R0.length ≤ 1048576) := hR0.out
  clear hR0
  generalize R0.length = m0 at *
  generalize rs.length = n_rs at *
  have B1 : Below W.heap.size W W := Ext.refl _
  go_enter Try.func12, Try.ntmps12
  by_cases hlong : (1048576 : Int) < (n_rs : Int)
  · go_wp2_with fail
    go_ret
    exact ⟨rfl, B1⟩
  have Mrs := Lib.hid (HMrs.out (by omega))
  clear HMrs
  go_wp2_with fail
  go_wp2_with fail
  have zW1 := B1.size
  refine (TOrs.out _ B1 Mrs.out).mono ?_
  rintro e w1 ⟨A1, c1, rfl, x1, hb⟩
  have z1 := hb.size
  replace B1 := Ext.then_ B1 hb
  clear hb
  go_wp2_with fail
  refine (SP.out _ _ _ x1.rd Mrs.out).mono ?_
  rintro e w2 ⟨A2_0, c2_0, rfl, o2_0, hb⟩
  have z2 := hb.size
  have hbx := (Ext.more hb (.cells #[.slice A2_0 m0 c2_0] 26))
  replace B1 := Ext.then_ B1 hbx
  replace x1 := x1.ext hbx
  have TR2_0 := Blk.made w2 26 #[.slice A2_0 m0 c2_0]
  replace o2_0 := o2_0.ext (Ext.more (Ext.refl _) (.cells #[.slice A2_0 m0 c2_0] 26))
  clear hb hbx
  clear x1
  go_wp2_with fail
  generalize w2.alloc (.cells #[.slice A2_0 m0 c2_0] 26) = V2 at *
  have y2 := TR2_0.lt
  have zW3 := B1.size
  refine (TOrs.out _ B1 Mrs.out).mono ?_
  rintro e w3 ⟨A3, c3, rfl, x3, hb⟩
  have z3 := hb.size
  replace B1 := Ext.then_ B1 hb
  replace TR2_0 := TR2_0.under hb TR2_0.lt
  replace o2_0 := o2_0.ext hb
  clear hb
  go_wp2_with fail
  refine (IM.out _ _ _ x3.rd Mrs.out).mono ?_
  rintro e w4 ⟨A4_0, c4_0, rfl, o4_0, hb⟩
  have z4 := hb.size
  have hbx := (Ext.more hb (.cells #[.slice A4_0 m0 c4_0] 26))
  replace B1 := Ext.then_ B1 hbx
  replace TR2_0 := TR2_0.under hbx TR2_0.lt
  replace o2_0 := o2_0.ext hbx
  replace x3 := x3.ext hbx
  have TR4_0 := Blk.made w4 26 #[.slice A4_0 m0 c4_0]
  replace o4_0 := o4_0.ext (Ext.more (Ext.refl _) (.cells #[.slice A4_0 m0 c4_0] 26))
  clear hb hbx
  have kTR4_0 := TR4_0.cell 0
  have kTR2_0 := TR2_0.cell 0
  simp at kTR4_0 kTR2_0
  have q1 : (R1 != R1) = false := by simp
  go_wp2_with fail
  generalize w4.alloc (.cells #[.slice A4_0 m0 c4_0] 26) = V4 at *
  have y4 := TR4_0.lt
  refine (ER0.out _ _ _ _ _ o4_0.rd o2_0.rd).mono ?_
  rintro e w5 ⟨rfl, hb⟩
  clear kTR4_0 kTR2_0
  have z5 := hb.size
  replace B1 := Ext.then_ B1 hb
  replace TR2_0 := TR2_0.under hb TR2_0.lt
  replace TR4_0 := TR4_0.under hb TR4_0.lt
  replace o2_0 := o2_0.ext hb
  replace x3 := x3.ext hb
  replace o4_0 := o4_0.ext hb
  clear hb
  go_wp2_with fail
  have zW6 := B1.size
  refine (TOrs.out _ B1 Mrs.out).mono ?_
  rintro e w6 ⟨A6, c6, rfl, x6, hb⟩
  have z6 := hb.size
  replace B1 := Ext.then_ B1 hb
  replace TR2_0 := TR2_0.under hb TR2_0.lt
  replace TR4_0 := TR4_0.under hb TR4_0.lt
  replace o2_0 := o2_0.ext hb
  replace x3 := x3.ext hb
  replace o4_0 := o4_0.ext hb
  clear hb
  go_wp2_with fail
  refine (EXrs.out _ _ _ _ _ x3.rd x6.rd Mrs.out).mono ?_
  rintro e w7 ⟨rfl, hb⟩
  have z7 := hb.size
  replace B1 := Ext.then_ B1 hb
  replace TR2_0 := TR2_0.under hb TR2_0.lt
  replace TR4_0 := TR4_0.under hb TR4_0.lt
  replace o2_0 := o2_0.ext hb
  replace x3 := x3.ext hb
  replace o4_0 := o4_0.ext hb
  replace x6 := x6.ext hb
  clear hb
  clear x6
  go_wp2_with fail
  refine (MXrs.out _ _ _ _ (1) (by omega) (by omega) _ x3 Mrs.out).mono ?_
  rintro e w8 ⟨rfl, x3', ch⟩
  replace B1 := B1.trans (ch.below (fun k hk => by have := hk.1; have := B1.size; omega) B1.size)
  replace TR2_0 := ch.blk TR2_0 (fun h => by have := h.1; have := h.2; omega)
  replace TR4_0 := ch.blk TR4_0 (fun h => by have := h.1; have := h.2; omega)
  replace o2_0 := o2_0.keep ch (fun b h1 h2 h => by have := h.1; have := h.2; omega)
  replace o4_0 := o4_0.keep ch (fun b h1 h2 h => by have := h.1; have := h.2; omega)
  have z8 := ch.size
  clear ch x3'
  clear x3
  have kTR4_0 := TR4_0.cell 0
  have kTR2_0 := TR2_0.cell 0
  simp at kTR4_0 kTR2_0
  have p0 : ¬ ((1 + n_rs : Nat) : Int) < 0 := by omega
  go_wp2_with fail
  refine (ER0.out _ _ _ _ _ o4_0.rd o2_0.rd).mono ?_
  rintro e w9 ⟨rfl, hb⟩
  clear kTR4_0 kTR2_0
  have z9 := hb.size
  replace B1 := Ext.then_ B1 hb
  replace TR2_0 := TR2_0.under hb TR2_0.lt
  replace TR4_0 := TR4_0.under hb TR4_0.lt
  replace o2_0 := o2_0.ext hb
  replace o4_0 := o4_0.ext hb
  clear hb
  clear p0
  have kTR4_0 := TR4_0.cell 0
  simp at kTR4_0
  go_wp2_with fail
  refine (MR0.out _ _ _ _ _ o4_0).mono ?_
  rintro e w10 ⟨rfl, om, ch⟩
  clear kTR4_0
  replace B1 := B1.trans (ch.below (fun k hk => by have := hk.1; have := B1.size; omega) B1.size)
  replace TR2_0 := ch.blk TR2_0 (fun h => by have := h.1; have := h.2; omega)
  replace TR4_0 := ch.blk TR4_0 (fun h => by have := h.1; have := h.2; omega)
  replace o2_0 := o2_0.keep ch (fun b h1 h2 h => by have := h.1; have := h.2; omega)
  have z10 := ch.size
  clear ch
  clear o4_0
  have kTR4_0 := TR4_0.cell 0
  simp at kTR4_0
  go_wp2_with fail
  refine (HR0.out _ _ _ om.rd).mono ?_
  rintro e w11 ⟨rfl, hb⟩
  clear kTR4_0
  have z11 := hb.size
  replace B1 := Ext.then_ B1 hb
  replace TR2_0 := TR2_0.under hb TR2_0.lt
  replace TR4_0 := TR4_0.under hb TR4_0.lt
  replace o2_0 := o2_0.ext hb
  replace om := om.ext hb
  clear hb
  have p0 : ¬ ((1 + m0 : Nat) : Int) < 0 := by omega
  have p1 : (((1 + m0 : Nat) : Int) != ((1 + m0 : Nat) : Int)) = false := by simp
  go_wp2_with fail
  have zW12 := B1.size
  refine (TOrs.out _ B1 Mrs.out).mono ?_
  rintro e w12 ⟨A12, c12, rfl, x12, hb⟩
  have z12 := hb.size
  replace B1 := Ext.then_ B1 hb
  replace TR2_0 := TR2_0.under hb TR2_0.lt
  replace TR4_0 := TR4_0.under hb TR4_0.lt
  replace o2_0 := o2_0.ext hb
  replace om := om.ext hb
  clear hb
  go_wp2_with fail
  refine (IM.out _ _ _ x12.rd Mrs.out).mono ?_
  rintro e w13 ⟨A13_0, c13_0, rfl, o13_0, hb⟩
  have z13 := hb.size
  have hbx := (Ext.more hb (.cells #[.slice A13_0 m0 c13_0] 26))
  replace B1 := Ext.then_ B1 hbx
  replace TR2_0 := TR2_0.under hbx TR2_0.lt
  replace TR4_0 := TR4_0.under hbx TR4_0.lt
  replace o2_0 := o2_0.ext hbx
  replace om := om.ext hbx
  replace x12 := x12.ext hbx
  have TR13_0 := Blk.made w13 26 #[.slice A13_0 m0 c13_0]
  replace o13_0 := o13_0.ext (Ext.more (Ext.refl _) (.cells #[.slice A13_0 m0 c13_0] 26))
  clear hb hbx
  clear x12
  have kTR13_0 := TR13_0.cell 0
  have kTR2_0 := TR2_0.cell 0
  simp at kTR13_0 kTR2_0
  go_wp2_with fail
  generalize w13.alloc (.cells #[.slice A13_0 m0 c13_0] 26) = V13 at *
  have y13 := TR13_0.lt
  refine (ER0.out _ _ _ _ _ o13_0.rd o2_0.rd).mono ?_
  rintro e w14 ⟨rfl, hb⟩
  clear kTR13_0 kTR2_0
  have z14 := hb.size
  replace B1 := Ext.then_ B1 hb
  replace TR2_0 := TR2_0.under hb TR2_0.lt
  replace TR4_0 := TR4_0.under hb TR4_0.lt
  replace TR13_0 := TR13_0.under hb TR13_0.lt
  replace o2_0 := o2_0.ext hb
  replace om := om.ext hb
  replace o13_0 := o13_0.ext hb
  clear hb
  have kTR4_0 := TR4_0.cell 0
  simp at kTR4_0
  go_wp2_with fail
  refine (HR0.out _ _ _ om.rd).mono ?_
  rintro e w15 ⟨rfl, hb⟩
  clear kTR4_0
  have z15 := hb.size
  replace B1 := Ext.then_ B1 hb
  replace TR2_0 := TR2_0.under hb TR2_0.lt
  replace TR4_0 := TR4_0.under hb TR4_0.lt
  replace TR13_0 := TR13_0.under hb TR13_0.lt
  replace o2_0 := o2_0.ext hb
  replace om := om.ext hb
  replace o13_0 := o13_0.ext hb
  clear hb
  go_wp2_with fail
  go_ret
  exact ⟨rfl, B1⟩
end Go.Proofs.Ytdbelajgndclfaa
