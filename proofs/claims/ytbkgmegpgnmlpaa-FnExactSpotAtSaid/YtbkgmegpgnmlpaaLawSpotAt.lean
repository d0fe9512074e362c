/- The law FnExactSpotAt: its walk. -/
import Derived.Test.YtbkgmegpgnmlpaaCvE
namespace Go.Proofs.Ytbkgmegpgnmlpaa
open Go.RowKit

def spC2 (p : Int × Int) : Array Value := #[.int .i64 p.1, .int .i64 p.2]
set_option maxHeartbeats 400000 in
theorem eqSpot_same (x y : Int) (w : World) :
    Calls Try.prog 21 #[.agg #[.int .i64 x, .int .i64 y], .agg #[.int .i64 x, .int .i64 y]] w fun e w' => e = .returned (.bool true) ∧ (w.alloc (.cells #[.int .i64 x, .int .i64 y] 29)).alloc (.cells #[.int .i64 x, .int .i64 y] 29) = w' := by
  go_enter Try.func21, Try.ntmps21
  go_wp2_with fail
  go_ret
  exact ⟨rfl, rfl⟩

set_option maxHeartbeats 400000 in
theorem lawSpotAt_any (c o n : Int) (w : World) :
    Calls Try.prog 4 #[.int .i64 c, .int .i64 o, .int .i64 n] w fun e w' => e = .returned (.bool true) ∧ Below w.heap.size w w' := by
  have C1 := Lib.hid (fun W => spotAtS_any c o n W)
  have C2 := Lib.hid (fun W => spotAt_any c o n W)
  unfold spotV at C1 C2
  generalize spotP c o n = p at C1 C2
  generalize spotOk c o n = b at C1 C2
  obtain ⟨x, y⟩ := p
  go_enter Try.func4, Try.ntmps4
  go_wp2_with fail
  refine (C1.out _).mono ?_
  rintro e w1 ⟨rfl, hb1⟩
  go_wp2_with fail
  refine (C2.out _).mono ?_
  rintro e w2 ⟨rfl, hb2⟩
  obtain ⟨hco, hfo⟩ := bcell hb2
  have hz := hb2.size
  simp only [World.size_alloc] at hz hco hfo
  have hz1 : w1.heap.size < w2.heap.size := by omega
  go_wp2_with (go_at_call 21; refine (eqSpot_same x y _).mono ?_; rintro e w' ⟨rfl, rfl⟩)
  go_ret
  refine ⟨rfl, ?_⟩
  exact Ext.more (Ext.more (Ext.more (Ext.then_ (Ext.more hb1 _) hb2) _) _) _
end Go.Proofs.Ytbkgmegpgnmlpaa
