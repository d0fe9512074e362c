/- The law FnExactRecoverJournal, walked. -/
import Derived.Test.YtgbciimfpahekaaDoorShp
import Derived.Test.YtgbciimfpahekaaDoorStx
import Derived.Test.YtgbciimfpahekaaDoorJnI
namespace Go.Proofs.YtgbciimfpahekaaDoor
open Go.RowKit

theorem RcRes.o {w w' : World} {s : ByteArray} {e : Ending} (h : RcRes w s e w') : ∃ A c, e = .returned (.tuple #[.slice A (rcR s).length c, .int .i64 (rcN s), .bool (rcB s)]) ∧ PicO w' w.heap.size w'.heap.size A c (rcR s) ∧ Below w.heap.size w w' := by
  obtain ⟨A, c, h1, h2, h3⟩ := h
  exact ⟨A, c, h1, RowO.of_own h2, h3⟩
theorem rcv_few : ∀ (n c : Nat) (t : List UInt8), t.length ≤ n → (rcv c t).1.length ≤ n
  | n, c, t, hn => by
    by_cases h : fnd 10 t < t.length
    · obtain ⟨x, hx⟩ : ∃ x, t.take (fnd 10 t) = x := ⟨_, rfl⟩
      by_cases h2 : fnd 32 x < x.length
      · by_cases h3 : x.take (fnd 32 x) = Lib.decDigits (chk c (x.drop (fnd 32 x + 1)))
        · rw [rcv_good hx h h2 h3]
          cases n with
          | zero => omega
          | succ n =>
            have := rcv_few n (chk c (x.drop (fnd 32 x + 1))) (t.drop (fnd 10 t + 1)) (by rw [List.length_drop]; omega)
            simp only [List.length_cons]; omega
        · rw [rcv_bad hx h3]; simp
      · rw [rcv_no hx h2]; simp
    · rw [rcv_end h]; simp
theorem rcR_few (s : ByteArray) : (rcR s).length ≤ 1048576 := by
  rw [rcR]
  split
  · rename_i h
    rw [rcB, decide_eq_true_iff] at h
    rw [List.length_map]
    have := rcv_few s.size 0 (bl s) (Nat.le_of_eq (bl_len s))
    omega
  · simp

set_option maxRecDepth 100000 in
set_option maxHeartbeats 4000000 in
theorem walkRecoverJournal (W : World) (s : ByteArray) (hT : TabOk W) :
    Calls Tryd.prog 4 #[.string s] W fun e w' => e = .returned (.bool true) ∧ Below W.heap.size W w' := by
  by_cases hlong : (1048576 : Int) < (s.size : Int)
  · go_enter Tryd.func4, Tryd.ntmps4
    go_wp2_with fail
    go_ret
    exact ⟨rfl, Ext.refl _⟩
  have hsz : s.size ≤ 1000000000 := by omega
  have HT := Lib.hid (fun V (hb : Below W.heap.size W V) => hT.ext hb)
  clear hT
  have IM := Lib.hid (fun  V (hT : TabOk V) => (recover_any s V hsz hT).mono (fun _ _ h => RcRes.o h))
  have SP := Lib.hid (fun  V  => (recoverS_any s V hsz).mono (fun _ _ h => RcRes.o h))
  have hR0 : Hid ((rcR s).length ≤ 1048576) := by
    exact rcR_few s

  generalize (rcR s) = R0 at *
  generalize ((rcN s : Int)) = R1 at *
  generalize (rcB s) = R2 at *
  have ER0 := Lib.hid (fun (A B : Option Addr) (c d : Nat) V (h1 : Rd V A (strs R0)) (h2 : Rd V B (strs R0)) => strsEq_any A B c d R0 V h1 h2 (by have := hR0.out; omega))
  have MR0 := Lib.hid (fun (lo hi : Nat) (A : Option Addr) (c : Nat) V (h1 : PicO V lo hi A c R0) => strsMark_any lo hi A c R0 1 (by omega) V h1 (by have := hR0.out; omega) (by omega))
  have HR0 := Lib.hid (fun (A : Option Addr) (c : Nat) V (h1 : Rd V A (strs (markSs 1 R0.length))) => strsHeld_any A c R0.length 1 (by omega) V h1 (by have := hR0.out; omega) (by omega))
  generalize markSs 1 R0.length = K0 at *
  have hC0 : Hid (R0.length ≤ 1048576) := hR0.out
  clear hR0
  generalize R0.length = m0 at *
  have B1 : Below W.heap.size W W := Ext.refl _
  go_enter Tryd.func4, Tryd.ntmps4
  go_wp2_with fail
  refine (SP.out  _ ).mono ?_
  rintro e w1 ⟨A1_0, c1_0, rfl, o1_0, hb⟩
  have z1 := hb.size
  replace B1 := Ext.then_ B1 hb
  clear hb
  go_wp2_with fail
  refine (IM.out  _  (HT.out _ B1)).mono ?_
  rintro e w2 ⟨A2_0, c2_0, rfl, o2_0, hb⟩
  have z2 := hb.size
  replace B1 := Ext.then_ B1 hb
  replace o1_0 := o1_0.ext hb
  clear hb
  have q1 : (R1 != R1) = false := by simp
  have q2 : (R2 != R2) = false := by simp
  go_wp2_with fail
  refine (ER0.out _ _ _ _ _ o2_0.rd o1_0.rd).mono ?_
  rintro e w3 ⟨rfl, hb⟩
  have z3 := hb.size
  replace B1 := Ext.then_ B1 hb
  replace o1_0 := o1_0.ext hb
  replace o2_0 := o2_0.ext hb
  clear hb
  go_wp2_with fail
  go_wp2_with fail
  refine (MR0.out _ _ _ _ _ o2_0).mono ?_
  rintro e w4 ⟨rfl, om, ch⟩
  replace B1 := B1.trans (ch.below (fun k hk => by have := hk.1; have := B1.size; omega) B1.size)
  replace o1_0 := o1_0.keep ch (fun b h1 h2 h => by have := h.1; have := h.2; omega)
  have z4 := ch.size
  clear ch
  clear o2_0
  go_wp2_with fail
  refine (HR0.out _ _ _ om.rd).mono ?_
  rintro e w5 ⟨rfl, hb⟩
  have z5 := hb.size
  replace B1 := Ext.then_ B1 hb
  replace o1_0 := o1_0.ext hb
  replace om := om.ext hb
  clear hb
  have p0 : ¬ ((1 + m0 : Nat) : Int) < 0 := by omega
  have p1 : (((1 + m0 : Nat) : Int) != ((1 + m0 : Nat) : Int)) = false := by simp
  go_wp2_with fail
  refine (IM.out  _  (HT.out _ B1)).mono ?_
  rintro e w6 ⟨A6_0, c6_0, rfl, o6_0, hb⟩
  have z6 := hb.size
  replace B1 := Ext.then_ B1 hb
  replace o1_0 := o1_0.ext hb
  replace om := om.ext hb
  clear hb
  go_wp2_with fail
  refine (ER0.out _ _ _ _ _ o6_0.rd o1_0.rd).mono ?_
  rintro e w7 ⟨rfl, hb⟩
  have z7 := hb.size
  replace B1 := Ext.then_ B1 hb
  replace o1_0 := o1_0.ext hb
  replace om := om.ext hb
  replace o6_0 := o6_0.ext hb
  clear hb
  go_wp2_with fail
  refine (HR0.out _ _ _ om.rd).mono ?_
  rintro e w8 ⟨rfl, hb⟩
  have z8 := hb.size
  replace B1 := Ext.then_ B1 hb
  replace o1_0 := o1_0.ext hb
  replace om := om.ext hb
  replace o6_0 := o6_0.ext hb
  clear hb
  go_wp2_with fail
  go_ret
  exact ⟨rfl, B1⟩
end Go.Proofs.YtgbciimfpahekaaDoor
