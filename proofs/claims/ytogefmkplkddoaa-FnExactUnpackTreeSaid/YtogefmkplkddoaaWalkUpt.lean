/- The law FnExactUnpackTree, walked. -/
import Derived.Test.YtogefmkplkddoaaUtT
import Derived.Test.YtogefmkplkddoaaOpenTr
namespace Go.Proofs.Ytogefmkplkddoaa
open Go.RowKit

set_option maxHeartbeats 400000 in
theorem eqTree_any (s : Int) (t : ByteArray) (w : World) : Calls Try.prog 16 #[.agg #[.int .i64 s, .string t], .agg #[.int .i64 s, .string t]] w fun e w' => e = .returned (.bool true) ∧ Below w.heap.size w w' := by
  have q0 : (s != s) = false := by simp
  have q1 : (t.toList == t.toList) = true := by simp
  have B1 : Below w.heap.size w ((w.alloc (.cells #[.int .i64 s, .string t] 29)).alloc (.cells #[.int .i64 s, .string t] 29)) := Ext.more (Ext.more (Ext.refl _) _) _
  go_enter Try.func16, Try.ntmps16
  go_wp2_with fail
  go_ret
  exact ⟨rfl, B1⟩
set_option maxRecDepth 100000 in
set_option maxHeartbeats 1000000 in
theorem walkUnpackTree (W : World) (side : Int) (s : ByteArray) :
    Calls Try.prog 5 #[.int .i64 side, .string s] W fun e w' => e = .returned (.bool true) ∧ Below W.heap.size W w' := by
  by_cases hlong : (1048576 : Int) < (s.size : Int)
  · go_enter Try.func5, Try.ntmps5
    go_wp2_with fail
    go_ret
    exact ⟨rfl, Ext.refl _⟩
  have hsz : s.size ≤ 1048576 := by omega
  have SP := Lib.hid (fun V => utS_any side s V hsz)
  have IM := Lib.hid (fun V => utI_any side s V hsz)
  obtain ⟨a, t, hv⟩ : ∃ a t, utV side (utO side s) = .agg #[.int .i64 a, .string t] := by
    cases utO side s with
    | none => exact ⟨_, _, rfl⟩
    | some T => exact ⟨_, _, rfl⟩
  have EQ := Lib.hid (fun V => eqTree_any a t V)
  unfold UtRes at SP IM
  rw [hv] at SP IM
  generalize utB (utO side s) = R1 at *
  have q1 : (R1 != R1) = false := by simp
  clear hv
  go_enter Try.func5, Try.ntmps5
  go_wp2_with fail
  refine (SP.out _).mono ?_
  rintro e w1 ⟨rfl, hb1⟩
  have T1 := Blk.made w1 29 #[.int .i64 a, .string t]
  have B1 : Below W.heap.size W (w1.alloc (.cells #[.int .i64 a, .string t] 29)) := Ext.more hb1 _
  go_wp2_with fail
  refine (IM.out _).mono ?_
  rintro e w2 ⟨rfl, hb2⟩
  have T2 := T1.under hb2 T1.lt
  have B2 := Ext.then_ B1 hb2
  have T3 := T2.more (.cells #[.int .i64 a, .string t] 29)
  have K3 := Blk.made w2 29 #[.int .i64 a, .string t]
  have B3 : Below W.heap.size W (w2.alloc (.cells #[.int .i64 a, .string t] 29)) := Ext.more B2 _
  have c0 := T3.cell 0
  have c1 := T3.cell 1
  have k0 := K3.cell 0
  have k1 := K3.cell 1
  simp at c0 c1 k0 k1
  clear T1 T2 T3 K3
  go_wp2_with fail
  refine (EQ.out _).mono ?_
  rintro e w3 ⟨rfl, hb3⟩
  go_wp2_with fail
  go_ret
  exact ⟨rfl, Ext.then_ B3 hb3⟩
end Go.Proofs.Ytogefmkplkddoaa
