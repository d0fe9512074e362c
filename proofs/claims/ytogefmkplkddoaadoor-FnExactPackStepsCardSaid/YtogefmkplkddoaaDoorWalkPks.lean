/- The laws FnExactPackSteps, FnExactUnpackSteps: their walks. -/
import Derived.Test.YtogefmkplkddoaaDoorStp
namespace Go.Proofs.YtogefmkplkddoaaDoor
open Go.RowKit

set_option maxRecDepth 100000 in
set_option maxHeartbeats 400000 in
theorem walkPks_any (W : World) (s : ByteArray) : Calls Tryd.prog 4 #[.string s] W fun e w' => e = .returned (.bool true) ∧ Below W.heap.size W w' := by
  have A := Lib.hid (fun V => packStepsS_any s V)
  have B := Lib.hid (fun V => packStepsI_any s V)
  by_cases hl : (1048576 : Int) < (s.size : Int)
  · go_enter Tryd.func4, Tryd.ntmps4
    go_wp2_with fail
    go_ret
    exact ⟨rfl, Ext.refl _⟩
  · generalize pkV s = x at *
    generalize pkB s = b at *
    cases b
    · go_enter Tryd.func4, Tryd.ntmps4
      go_wp2_with fail
      refine (A.out _).mono ?_
      rintro e w1 ⟨rfl, hb1⟩
      go_wp2_with fail
      refine (B.out _).mono ?_
      rintro e w2 ⟨rfl, hb2⟩
      go_wp2_with fail
      go_ret
      exact ⟨rfl, Ext.then_ hb1 hb2⟩
    · go_enter Tryd.func4, Tryd.ntmps4
      go_wp2_with fail
      refine (A.out _).mono ?_
      rintro e w1 ⟨rfl, hb1⟩
      go_wp2_with fail
      refine (B.out _).mono ?_
      rintro e w2 ⟨rfl, hb2⟩
      go_wp2_with fail
      go_ret
      exact ⟨rfl, Ext.then_ hb1 hb2⟩
end Go.Proofs.YtogefmkplkddoaaDoor
