/- Matrices that a law compares and finds marked: the two contracts in the form that the walks ask. -/
import Derived.Test.YtkamkjbllmgifaaMatP
namespace Go.Proofs.Ytkamkjbllmgifaa
open Go.RowKit
theorem matEq_any (A B : Option Addr) (c d : Nat) (R : List (List Int)) (w : World) (hA : MatRd w A R) (hB : MatRd w B R) (hn : R.length ≤ 1000000000) (hr : ∀ i (h : i < R.length), R[i].length ≤ 1000000000) :
    Calls Try.prog 27 #[.slice A R.length c, .slice B R.length d] w fun e w' => e = .returned (.bool true) ∧ Below w.heap.size w w' :=
  (eqMat_any A B c d R w hA hB hn hr).mono fun _ _ ⟨he, k, hk⟩ => ⟨he, hk ▸ Ext.drawN (Ext.refl _) k⟩
theorem matHeld_any (A : Option Addr) (c : Nat) (R : List (List Int)) (k0 : Nat) (w : World) (hA : MatRd w A (mkRows k0 R R.length)) (hn : R.length ≤ 1000000000) (ht : tot R R.length ≤ 1000000000) (hk0 : k0 ≤ 1000000000) :
    Calls Try.prog 31 #[.slice A R.length c, .int .i64 k0] w fun e w' => e = .returned (.int .i64 ((k0 + tot R R.length : Nat) : Int)) ∧ Below w.heap.size w w' :=
  (heldMat_any A c R k0 w hA hn ht hk0).mono fun _ _ ⟨he, hk⟩ => ⟨he, hk ▸ Ext.refl _⟩
end Go.Proofs.Ytkamkjbllmgifaa
