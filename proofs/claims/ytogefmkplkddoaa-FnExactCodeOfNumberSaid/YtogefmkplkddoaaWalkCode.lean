/- The law FnExactCodeOfNumber, walked. -/
import Derived.Test.YtogefmkplkddoaaCodeI
namespace Go.Proofs.Ytogefmkplkddoaa
open Go.RowKit

set_option maxRecDepth 100000 in
set_option maxHeartbeats 1000000 in
theorem walkCodeOfNumber (W : World) (n : Int) :
    Calls Try.prog 3 #[.int .i64 n] W fun e w' => e = .returned (.bool true) ∧ Below W.heap.size W w' := by
  have SP := Lib.hid (fun V => codeOfNumberS_any n V)
  have IM := Lib.hid (fun V => codeOfNumber_any n V)
  generalize numCode n = R0 at *
  generalize numOk n = R1 at *
  have q1 : (R1 != R1) = false := by simp
  go_enter Try.func3, Try.ntmps3
  go_wp2_with fail
  refine (SP.out _).mono ?_
  rintro e w1 ⟨rfl, hb1⟩
  go_wp2_with fail
  refine (IM.out _).mono ?_
  rintro e w2 ⟨rfl, hb2⟩
  go_wp2_with fail
  go_ret
  exact ⟨rfl, Ext.then_ hb1 hb2⟩
end Go.Proofs.Ytogefmkplkddoaa
