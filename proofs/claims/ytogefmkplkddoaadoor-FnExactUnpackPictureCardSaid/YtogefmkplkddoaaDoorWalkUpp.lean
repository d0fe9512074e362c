/- The law FnExactUnpackPicture, walked. -/
import Derived.Test.YtogefmkplkddoaaDoorShp
import Derived.Test.YtogefmkplkddoaaDoorUppS
namespace Go.Proofs.YtogefmkplkddoaaDoor
open Go.RowKit

theorem UpRes.o {w w' : World} {s : ByteArray} {e : Ending} (h : UpRes w s e w') : ∃ A c, e = .returned (.tuple #[.agg #[.slice A (uV s).length c], .bool (uOk s)]) ∧ PicO w' w.heap.size w'.heap.size A c (uV s) ∧ Below w.heap.size w w' := by
  obtain ⟨A, c, h1, h2, h3⟩ := h
  exact ⟨A, c, h1, RowO.of_own h2, h3⟩

set_option maxRecDepth 100000 in
set_option maxHeartbeats 4000000 in
theorem walkUnpackPicture (W : World) (s : ByteArray) :
    Calls Tryd.prog 7 #[.string s] W fun e w' => e = .returned (.bool true) ∧ Below W.heap.size W w' := by
  by_cases hlong : (1048576 : Int) < (s.size : Int)
  · go_enter Tryd.func7, Tryd.ntmps7
    go_wp2_with fail
    go_ret
    exact ⟨rfl, Ext.refl _⟩
  have hsz : s.size ≤ 1000000000 := by omega
  have IM := Lib.hid (fun  V  => (unpackPicture_any s V hsz).mono (fun _ _ h => UpRes.o h))
  have SP := Lib.hid (fun  V  => (upicS_any s V hsz).mono (fun _ _ h => UpRes.o h))
  have hR0 : Hid ((uV s).length ≤ 1048576) := by
    by_cases hp : uOk s = true
    · rw [(up_good hp).1, Hid, uRows, rowsTo_length]
      simp only [uOk, uSz, Bool.and_eq_true] at hp
      have := inB_iff.1 hp.1.2.2.2
      unfold uH; omega
    · rw [(up_bad (by simpa using hp)).1]; exact Nat.zero_le _

  generalize (uV s) = R0 at *
  generalize (uOk s) = R1 at *
  have ER0 := Lib.hid (fun (A B : Option Addr) (c d : Nat) V (h1 : Rd V A (strs R0)) (h2 : Rd V B (strs R0)) => eqPic_any A B c d R0 V h1 h2 (by have := hR0.out; omega))
  have MR0 := Lib.hid (fun (lo hi : Nat) (A : Option Addr) (c : Nat) V (h1 : PicO V lo hi A c R0) => picMark_any lo hi A c R0 1 (by omega) V h1 (by have := hR0.out; omega) (by omega))
  have HR0 := Lib.hid (fun (A : Option Addr) (c : Nat) V (h1 : Rd V A (strs (markSs 1 R0.length))) => heldPic_any A c R0.length 1 (by omega) V h1 (by have := hR0.out; omega) (by omega))
  generalize markSs 1 R0.length = K0 at *
  have hC0 : Hid (R0.length ≤ 1048576) := hR0.out
  clear hR0
  generalize R0.length = m0 at *
  have B1 : Below W.heap.size W W := Ext.refl _
  go_enter Tryd.func7, Tryd.ntmps7
  go_wp2_with fail
  refine (SP.out  _ ).mono ?_
  rintro e w1 ⟨A1_0, c1_0, rfl, o1_0, hb⟩
  have z1 := hb.size
  have hbx := (Ext.more hb (.cells #[.slice A1_0 m0 c1_0] 36))
  replace B1 := Ext.then_ B1 hbx
  have TR1_0 := Blk.made w1 36 #[.slice A1_0 m0 c1_0]
  replace o1_0 := o1_0.ext (Ext.more (Ext.refl _) (.cells #[.slice A1_0 m0 c1_0] 36))
  clear hb hbx
  go_wp2_with fail
  generalize w1.alloc (.cells #[.slice A1_0 m0 c1_0] 36) = V1 at *
  have y1 := TR1_0.lt
  refine (IM.out  _ ).mono ?_
  rintro e w2 ⟨A2_0, c2_0, rfl, o2_0, hb⟩
  have z2 := hb.size
  have hbx := (Ext.more hb (.cells #[.slice A2_0 m0 c2_0] 36))
  replace B1 := Ext.then_ B1 hbx
  replace TR1_0 := TR1_0.under hbx TR1_0.lt
  replace o1_0 := o1_0.ext hbx
  have TR2_0 := Blk.made w2 36 #[.slice A2_0 m0 c2_0]
  replace o2_0 := o2_0.ext (Ext.more (Ext.refl _) (.cells #[.slice A2_0 m0 c2_0] 36))
  clear hb hbx
  have kTR2_0 := TR2_0.cell 0
  have kTR1_0 := TR1_0.cell 0
  simp at kTR2_0 kTR1_0
  have q1 : (R1 != R1) = false := by simp
  go_wp2_with fail
  generalize w2.alloc (.cells #[.slice A2_0 m0 c2_0] 36) = V2 at *
  have y2 := TR2_0.lt
  refine (ER0.out _ _ _ _ _ o2_0.rd o1_0.rd).mono ?_
  rintro e w3 ⟨rfl, hb⟩
  clear kTR2_0 kTR1_0
  have z3 := hb.size
  replace B1 := Ext.then_ B1 hb
  replace TR1_0 := TR1_0.under hb TR1_0.lt
  replace TR2_0 := TR2_0.under hb TR2_0.lt
  replace o1_0 := o1_0.ext hb
  replace o2_0 := o2_0.ext hb
  clear hb
  have kTR2_0 := TR2_0.cell 0
  simp at kTR2_0
  go_wp2_with fail
  refine (MR0.out _ _ _ _ _ o2_0).mono ?_
  rintro e w4 ⟨rfl, om, ch⟩
  clear kTR2_0
  replace B1 := B1.trans (ch.below (fun k hk => by have := hk.1; have := B1.size; omega) B1.size)
  replace TR1_0 := ch.blk TR1_0 (fun h => by have := h.1; have := h.2; omega)
  replace TR2_0 := ch.blk TR2_0 (fun h => by have := h.1; have := h.2; omega)
  replace o1_0 := o1_0.keep ch (fun b h1 h2 h => by have := h.1; have := h.2; omega)
  have z4 := ch.size
  clear ch
  clear o2_0
  have kTR2_0 := TR2_0.cell 0
  simp at kTR2_0
  go_wp2_with fail
  refine (HR0.out _ _ _ om.rd).mono ?_
  rintro e w5 ⟨rfl, hb⟩
  clear kTR2_0
  have z5 := hb.size
  replace B1 := Ext.then_ B1 hb
  replace TR1_0 := TR1_0.under hb TR1_0.lt
  replace TR2_0 := TR2_0.under hb TR2_0.lt
  replace o1_0 := o1_0.ext hb
  replace om := om.ext hb
  clear hb
  have p0 : ¬ ((1 + m0 : Nat) : Int) < 0 := by omega
  have p1 : (((1 + m0 : Nat) : Int) != ((1 + m0 : Nat) : Int)) = false := by simp
  go_wp2_with fail
  refine (IM.out  _ ).mono ?_
  rintro e w6 ⟨A6_0, c6_0, rfl, o6_0, hb⟩
  have z6 := hb.size
  have hbx := (Ext.more hb (.cells #[.slice A6_0 m0 c6_0] 36))
  replace B1 := Ext.then_ B1 hbx
  replace TR1_0 := TR1_0.under hbx TR1_0.lt
  replace TR2_0 := TR2_0.under hbx TR2_0.lt
  replace o1_0 := o1_0.ext hbx
  replace om := om.ext hbx
  have TR6_0 := Blk.made w6 36 #[.slice A6_0 m0 c6_0]
  replace o6_0 := o6_0.ext (Ext.more (Ext.refl _) (.cells #[.slice A6_0 m0 c6_0] 36))
  clear hb hbx
  have kTR6_0 := TR6_0.cell 0
  have kTR1_0 := TR1_0.cell 0
  simp at kTR6_0 kTR1_0
  go_wp2_with fail
  generalize w6.alloc (.cells #[.slice A6_0 m0 c6_0] 36) = V6 at *
  have y6 := TR6_0.lt
  refine (ER0.out _ _ _ _ _ o6_0.rd o1_0.rd).mono ?_
  rintro e w7 ⟨rfl, hb⟩
  clear kTR6_0 kTR1_0
  have z7 := hb.size
  replace B1 := Ext.then_ B1 hb
  replace TR1_0 := TR1_0.under hb TR1_0.lt
  replace TR2_0 := TR2_0.under hb TR2_0.lt
  replace TR6_0 := TR6_0.under hb TR6_0.lt
  replace o1_0 := o1_0.ext hb
  replace om := om.ext hb
  replace o6_0 := o6_0.ext hb
  clear hb
  have kTR2_0 := TR2_0.cell 0
  simp at kTR2_0
  go_wp2_with fail
  refine (HR0.out _ _ _ om.rd).mono ?_
  rintro e w8 ⟨rfl, hb⟩
  clear kTR2_0
  have z8 := hb.size
  replace B1 := Ext.then_ B1 hb
  replace TR1_0 := TR1_0.under hb TR1_0.lt
  replace TR2_0 := TR2_0.under hb TR2_0.lt
  replace TR6_0 := TR6_0.under hb TR6_0.lt
  replace o1_0 := o1_0.ext hb
  replace om := om.ext hb
  replace o6_0 := o6_0.ext hb
  clear hb
  go_wp2_with fail
  go_ret
  exact ⟨rfl, B1⟩
end Go.Proofs.YtogefmkplkddoaaDoor
