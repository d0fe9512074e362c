/- The grey picture of a picture: the program's. -/
import Derived.Test.YtdhajndmebnknaaGrid
import Derived.Test.YtdhajndmebnknaaImgOf
namespace Go.Proofs.Ytdhajndmebnknaa
open Go.RowKit

def gf (L : List Bool) (W H x y : Nat) : Int := if bit L W H x y then 0 else 99
theorem oneIf_any (b : Bool) (w : World) : Calls Try.prog 76 #[.bool b] w fun e w' => e = .returned (.int .i64 (if b then 1 else 0)) ∧ w = w' := by
  cases b
  · go_enter Try.func76, Try.ntmps76
    go_wp2_with fail
    go_ret
    exact ⟨rfl, rfl⟩
  · go_enter Try.func76, Try.ntmps76
    go_wp2_with fail
    go_ret
    exact ⟨rfl, rfl⟩
end Go.Proofs.Ytdhajndmebnknaa
