/- The law FnExactNumbersOfCode, walked. -/
import Derived.Test.YtogefmkplkddoaaDoorShp
import Derived.Test.YtogefmkplkddoaaDoorNumO
namespace Go.Proofs.YtogefmkplkddoaaDoor
open Go.RowKit

set_option maxRecDepth 100000 in
set_option maxHeartbeats 4000000 in
theorem walkNumbersOfCode (W : World) (s : ByteArray) :
    Calls Tryd.prog 3 #[.string s] W fun e w' => e = .returned (.bool true) ∧ Below W.heap.size W w' := by
  by_cases hlong : (1048576 : Int) < (s.size : Int)
  · go_enter Tryd.func3, Tryd.ntmps3
    go_wp2_with fail
    go_ret
    exact ⟨rfl, Ext.refl _⟩
  have hsz : s.size ≤ 1000000000 := by omega
  have IM := Lib.hid (fun  V  => (numbersI_any s V hsz).mono (fun _ _ h => NmRes.o h))
  have SP := Lib.hid (fun  V  => (numbersS_any s V hsz).mono (fun _ _ h => NmRes.o h))
  have hR0 : Hid ((nmO s).length ≤ 1048576) := by
    exact nmO_len s

  generalize (nmO s) = R0 at *
  generalize (nmB s) = R1 at *
  have ER0 := Lib.hid (fun (A B : Option Addr) (c d : Nat) V (h1 : Rd V A (ints R0)) (h2 : Rd V B (ints R0)) => intsEq_any A B c d R0 V h1 h2 (by have := hR0.out; omega))
  have MR0 := Lib.hid (fun (lo hi : Nat) (A : Option Addr) (c : Nat) V (h1 : IntsO V lo hi A c R0) => intsMark_any lo hi A c R0 1 V h1 (by have := hR0.out; omega) (by omega))
  have HR0 := Lib.hid (fun (A : Option Addr) (c : Nat) V (h1 : Rd V A (ints (marks 1 R0.length))) => intsHeld_any A c R0.length 1 V h1 (by have := hR0.out; omega) (by omega))
  generalize marks 1 R0.length = K0 at *
  have hC0 : Hid (R0.length ≤ 1048576) := hR0.out
  clear hR0
  generalize R0.length = m0 at *
  have B1 : Below W.heap.size W W := Ext.refl _
  go_enter Tryd.func3, Tryd.ntmps3
  go_wp2_with fail
  refine (SP.out  _ ).mono ?_
  rintro e w1 ⟨A1_0, c1_0, rfl, o1_0, hb⟩
  have z1 := hb.size
  replace B1 := Ext.then_ B1 hb
  clear hb
  go_wp2_with fail
  refine (IM.out  _ ).mono ?_
  rintro e w2 ⟨A2_0, c2_0, rfl, o2_0, hb⟩
  have z2 := hb.size
  replace B1 := Ext.then_ B1 hb
  replace o1_0 := o1_0.ext hb
  clear hb
  have q1 : (R1 != R1) = false := by simp
  go_wp2_with fail
  refine (ER0.out _ _ _ _ _ o2_0.rd o1_0.rd).mono ?_
  rintro e w3 ⟨rfl, hb⟩
  have z3 := hb.size
  replace B1 := Ext.then_ B1 hb
  replace o1_0 := o1_0.ext hb
  replace o2_0 := o2_0.ext hb
  clear hb
  go_wp2_with fail
  go_wp2_with fail
  refine (MR0.out _ _ _ _ _ o2_0).mono ?_
  rintro e w4 ⟨rfl, om, ch⟩
  replace B1 := B1.trans (ch.below (fun k hk => by have := hk.1; have := B1.size; omega) B1.size)
  replace o1_0 := o1_0.keep ch (fun b h1 h2 h => by have := h.1; have := h.2; omega)
  have z4 := ch.size
  clear ch
  clear o2_0
  go_wp2_with fail
  refine (HR0.out _ _ _ om.rd).mono ?_
  rintro e w5 ⟨rfl, hb⟩
  have z5 := hb.size
  replace B1 := Ext.then_ B1 hb
  replace o1_0 := o1_0.ext hb
  replace om := om.ext hb
  clear hb
  have p0 : ¬ ((1 + m0 : Nat) : Int) < 0 := by omega
  have p1 : (((1 + m0 : Nat) : Int) != ((1 + m0 : Nat) : Int)) = false := by simp
  go_wp2_with fail
  refine (IM.out  _ ).mono ?_
  rintro e w6 ⟨A6_0, c6_0, rfl, o6_0, hb⟩
  have z6 := hb.size
  replace B1 := Ext.then_ B1 hb
  replace o1_0 := o1_0.ext hb
  replace om := om.ext hb
  clear hb
  go_wp2_with fail
  refine (ER0.out _ _ _ _ _ o6_0.rd o1_0.rd).mono ?_
  rintro e w7 ⟨rfl, hb⟩
  have z7 := hb.size
  replace B1 := Ext.then_ B1 hb
  replace o1_0 := o1_0.ext hb
  replace om := om.ext hb
  replace o6_0 := o6_0.ext hb
  clear hb
  go_wp2_with fail
  refine (HR0.out _ _ _ om.rd).mono ?_
  rintro e w8 ⟨rfl, hb⟩
  have z8 := hb.size
  replace B1 := Ext.then_ B1 hb
  replace o1_0 := o1_0.ext hb
  replace om := om.ext hb
  replace o6_0 := o6_0.ext hb
  clear hb
  go_wp2_with fail
  go_ret
  exact ⟨rfl, B1⟩
end Go.Proofs.YtogefmkplkddoaaDoor
