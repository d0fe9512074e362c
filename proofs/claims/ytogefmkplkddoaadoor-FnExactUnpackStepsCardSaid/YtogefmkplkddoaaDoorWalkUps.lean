/- The law FnExactUnpackSteps: its walk. -/
import Derived.Test.YtogefmkplkddoaaDoorUps
namespace Go.Proofs.YtogefmkplkddoaaDoor
open Go.RowKit

set_option maxRecDepth 100000 in
set_option maxHeartbeats 400000 in
theorem walkUps_any (W : World) (s : ByteArray) : Calls Tryd.prog 5 #[.string s] W fun e w' => e = .returned (.bool true) ∧ Below W.heap.size W w' := by
  have A := Lib.hid (fun V => unpackStepsS_any s V)
  have B := Lib.hid (fun V => unpackSteps_any s V)
  by_cases hl : (1048576 : Int) < (s.size : Int)
  · go_enter Tryd.func5, Tryd.ntmps5
    go_wp2_with fail
    go_ret
    exact ⟨rfl, Ext.refl _⟩
  · generalize upV s = x at *
    generalize upB s = b at *
    cases b
    · go_enter Tryd.func5, Tryd.ntmps5
      go_wp2_with fail
      refine (A.out _).mono ?_
      rintro e w1 ⟨rfl, hb1⟩
      go_wp2_with fail
      refine (B.out _).mono ?_
      rintro e w2 ⟨rfl, hb2⟩
      go_wp2_with fail
      go_ret
      exact ⟨rfl, Ext.then_ hb1 hb2⟩
    · go_enter Tryd.func5, Tryd.ntmps5
      go_wp2_with fail
      refine (A.out _).mono ?_
      rintro e w1 ⟨rfl, hb1⟩
      go_wp2_with fail
      refine (B.out _).mono ?_
      rintro e w2 ⟨rfl, hb2⟩
      go_wp2_with fail
      go_ret
      exact ⟨rfl, Ext.then_ hb1 hb2⟩
end Go.Proofs.YtogefmkplkddoaaDoor
