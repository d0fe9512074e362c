/- The least height between two spots, and to the edge: on both sides. -/
import Derived.Test.YtgbciimfpahekaaDoorSpS
namespace Go.Proofs.YtgbciimfpahekaaDoor
open Go.RowKit

theorem passL_get {W n : Nat} {G : Nat → Int} {F : Nat → Prop} {O : Nat → Int} (h : IsPass W n G F O) {b : Nat} (hb : b < n) : (passL W n G F).getD b 0 = O b := by
  rw [← passL_of h, List.getD_eq_getElem?_getD, List.getElem?_map, List.getElem?_range hb]
  rfl
/-- The least height of ways between two places; to the edge. -/
noncomputable def passAt (rows : List (List Int)) (a b : Nat) : Int := (passL (tabW rows) (tabW rows * rows.length) (gF rows (tabW rows)) (fun i => i = a)).getD b 0
noncomputable def spillF (rows : List (List Int)) (b : Nat) : Int := (passL (tabW rows) (tabW rows * rows.length) (gF rows (tabW rows)) (fun i => edgeB (tabW rows) rows.length i = true)).getD b 0
def inR (rows : List (List Int)) (x y : Int) : Bool := greyOk rows && inG (tabW rows) rows.length (x, y)
def pR (rows : List (List Int)) (x y : Int) : Nat := plc (tabW rows) (x, y)
def passOk (rows : List (List Int)) (ax ay bx b_y : Int) : Bool := inR rows ax ay && inR rows bx b_y
noncomputable def passV (rows : List (List Int)) (ax ay bx b_y : Int) : Int := if passOk rows ax ay bx b_y then passAt rows (pR rows ax ay) (pR rows bx b_y) else 0
noncomputable def spillV (rows : List (List Int)) (x y : Int) : Int := if inR rows x y then spillF rows (pR rows x y) else 0
theorem grey_box {w : World} {A : Option Addr} {c : Nat} {rows : List (List Int)} (h : MatRd w A rows) : GreyAt (w.alloc (.cells #[.slice A rows.length c] 83)) w.heap.size A c rows := GreyAt.boxed h _
theorem gO_grey {w : World} {lo hi : Nat} {A : Option Addr} {c : Nat} {vs : List Value} {O : Nat → Int} {W H : Nat} (h : MatAt w lo hi A c vs (gO O W H)) : GreyAt (w.alloc (.cells #[.slice A H c] 83)) w.heap.size A c (gO O W H) := by
  have := grey_box (c := c) h.rd
  rwa [gO_length] at this
/-- A spot inside as two naturals. -/
theorem inG_nat {W H : Nat} {x y : Int} (h : inG W H (x, y) = true) : ∃ a b : Nat, x = a ∧ y = b ∧ a < W ∧ b < H ∧ plc W (x, y) = b * W + a := by
  have := inG_iff.1 h
  simp only at this
  exact ⟨x.toNat, y.toNat, by omega, by omega, by omega, by omega, rfl⟩

end Go.Proofs.YtgbciimfpahekaaDoor
