/- The law FnExactPackTree, walked. -/
import Derived.Test.YtogefmkplkddoaaTrQ
import Derived.Test.YtogefmkplkddoaaOpenTr
namespace Go.Proofs.Ytogefmkplkddoaa
open Go.RowKit

set_option maxRecDepth 100000 in
set_option maxHeartbeats 1000000 in
theorem walkPackTree (W : World) (s : Int) (t : ByteArray) (ht : t.size ≤ maxLen) :
    Calls Try.prog 4 #[.agg #[.int .i64 s, .string t]] W fun e w' => e = .returned (.bool true) ∧ Below W.heap.size W w' := by
  have SZ := Lib.hid (fun V => szTree_any s t V ht)
  have TO := Lib.hid (fun V => toTree_any s t V)
  have T0 := Blk.made W 26 #[.int .i64 s, .string t]
  have B0 : Below W.heap.size W (W.alloc (.cells #[.int .i64 s, .string t] 26)) := Ext.more (Ext.refl _) _
  by_cases hbig : 1048576 < t.size
  · have F : szT t = -1 := by rw [szT, if_pos hbig]
    rw [F] at SZ
    go_enter Try.func4, Try.ntmps4
    go_wp2_with fail
    refine (SZ.out _).mono ?_
    rintro e w1 ⟨rfl, hb1⟩
    go_wp2_with fail
    go_ret
    exact ⟨rfl, Ext.then_ B0 hb1⟩
  have hsz : t.size ≤ 1048576 := by omega
  have F : 0 ≤ szT t := by rw [szT, if_neg hbig]; omega
  have SP := Lib.hid (fun V => packTreeS_any s t V hsz)
  have IM := Lib.hid (fun V => packTreeI_any s t V hsz)
  generalize szT t = z at *
  generalize ptV s t = R0 at *
  generalize ptB s t = R1 at *
  have q0 : ¬ z < 0 := by omega
  have q1 : (R1 != R1) = false := by simp
  have g0 := T0.cell 0
  have g1 := T0.cell 1
  simp at g0 g1
  go_enter Try.func4, Try.ntmps4
  go_wp2_with fail
  refine (SZ.out _).mono ?_
  rintro e w1 ⟨rfl, hb1⟩
  have T1 := T0.under hb1 T0.lt
  have B1 := Ext.then_ B0 hb1
  clear g0 g1
  have g0 := T1.cell 0
  have g1 := T1.cell 1
  simp at g0 g1
  go_wp2_with fail
  refine (TO.out _).mono ?_
  rintro e w2 ⟨rfl, hb2⟩
  have T2 := T1.under hb2 T1.lt
  have B2 := Ext.then_ B1 hb2
  go_wp2_with fail
  refine (SP.out _).mono ?_
  rintro e w3 ⟨rfl, hb3⟩
  have T3 := T2.under hb3 T2.lt
  have B3 := Ext.then_ B2 hb3
  clear g0 g1
  have g0 := T3.cell 0
  have g1 := T3.cell 1
  simp at g0 g1
  go_wp2_with fail
  refine (TO.out _).mono ?_
  rintro e w4 ⟨rfl, hb4⟩
  have B4 := Ext.then_ B3 hb4
  go_wp2_with fail
  refine (IM.out _).mono ?_
  rintro e w5 ⟨rfl, hb5⟩
  go_wp2_with fail
  go_ret
  exact ⟨rfl, Ext.then_ B4 hb5⟩
end Go.Proofs.Ytogefmkplkddoaa
