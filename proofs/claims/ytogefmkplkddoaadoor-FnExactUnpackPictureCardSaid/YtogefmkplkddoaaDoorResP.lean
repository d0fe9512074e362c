/- Plain: a residue and what comes from it undo each other. -/
import Derived.Test.YtogefmkplkddoaaDoorTldP
import Derived.Test.YtogefmkplkddoaaDoorSFrom
namespace Go.Proofs.YtogefmkplkddoaaDoor
open Go.RowKit

theorem bitsTo_full (b : Nat → Bool) (n : Nat) : bTo b n = bitsTo b n n := (bitsTo_all b n).symm
/-- Where a list is known up to k, its bits before k are those of the whole. -/
theorem bit_before {b : Nat → Bool} {W H x y : Nat} (hx : x < W) (hy : y < H) (x' y' : Int) (h : (x' = (x : Int) - 1 ∧ y' = y) ∨ (x' = x ∧ y' = (y : Int) - 1) ∨ (x' = (x : Int) - 1 ∧ y' = (y : Int) - 1)) :
    bit (bitsTo b (y * W + x) (W * H)) W H x' y' = bit (bTo b (W * H)) W H x' y' := by
  by_cases h0 : x' < 0
  · simp [bit, show ¬ (0 ≤ x') by omega]
  · by_cases h1 : y' < 0
    · simp [bit, show ¬ (0 ≤ y') by omega]
    · obtain ⟨a, rfl⟩ : ∃ a : Nat, x' = a := ⟨x'.toNat, by omega⟩
      obtain ⟨d, rfl⟩ : ∃ d : Nat, y' = d := ⟨y'.toNat, by omega⟩
      have ha : a < W := by omega
      have hd : d < H := by omega
      have hk : d * W + a < y * W + x := by
        rcases h with ⟨h2, h3⟩ | ⟨h2, h3⟩ | ⟨h2, h3⟩
        · have : d = y := by omega
          subst this; omega
        · have : y = d + 1 := by omega
          subst this; rw [Nat.add_mul]; omega
        · have : y = d + 1 := by omega
          subst this; rw [Nat.add_mul]; omega
      rw [bit_to ha hd hk, bit_bTo ha hd]
/-- The equation of what comes from a residue. -/
theorem fr_eq (L : List Bool) (W H x y : Nat) (hx : x < W) (hy : y < H) :
    ((bit L W H x y != bit (frL L W H) W H ((x : Int) - 1) y) != (bit (frL L W H) W H x ((y : Int) - 1) != bit (frL L W H) W H ((x : Int) - 1) ((y : Int) - 1))) = frB L W (y * W + x) := by
  have h := fr_step L W H x y hx hy
  rw [bit_before hx hy _ _ (.inl ⟨rfl, rfl⟩), bit_before hx hy _ _ (.inr (.inl ⟨rfl, rfl⟩)), bit_before hx hy _ _ (.inr (.inr ⟨rfl, rfl⟩))] at h
  exact h
theorem res_fr {L : List Bool} {W H : Nat} (hL : L.length = W * H) : resL (frL L W H) W H = L := by
  rw [resL_eq]
  refine list_bits hL (fun x y hx hy => ?_)
  rw [resF_at hx]
  have h := fr_eq L W H x y hx hy
  have e : bit (frL L W H) W H x y = frB L W (y * W + x) := by rw [frL_eq, bit_bTo hx hy]
  rw [e, ← h]
  generalize bit L W H x y = a
  generalize bit (frL L W H) W H ((x : Int) - 1) y = b
  generalize bit (frL L W H) W H x ((y : Int) - 1) = c
  generalize bit (frL L W H) W H ((x : Int) - 1) ((y : Int) - 1) = d
  revert a b c d; decide

theorem fr_res_at {L : List Bool} {W H : Nat} : ∀ (y : Nat), y < H → ∀ x, x < W → frB (resL L W H) W (y * W + x) = bit L W H x y := by
  intro y
  induction y with
  | zero =>
    intro hy x
    induction x with
    | zero =>
      intro hx
      rw [← fr_eq _ W H 0 0 hx hy, resL_eq, bit_bTo hx hy, resF_at hx]
      simp [bit]
    | succ x ih =>
      intro hx
      have h1 := ih (by omega)
      rw [← fr_eq _ W H (x + 1) 0 hx hy]
      have e1 : ((x + 1 : Nat) : Int) - 1 = (x : Int) := by omega
      have e2 : ((0 : Nat) : Int) - 1 = -1 := rfl
      rw [e1, e2, bit_over, bit_over, frL_eq, bit_bTo (x := x) (y := 0) (by omega) hy, h1, resL_eq, bit_bTo hx hy, resF_at hx, e1, e2, bit_over, bit_over]
      generalize bit L W H x (0 : Nat) = a
      generalize bit L W H (x + 1 : Nat) (0 : Nat) = b
      revert a b; decide
  | succ y ihy =>
    intro hy x
    have hr := ihy (by omega)
    have e2 : ((y + 1 : Nat) : Int) - 1 = (y : Int) := by omega
    induction x with
    | zero =>
      intro hx
      rw [← fr_eq _ W H 0 (y + 1) hx hy]
      have e1 : ((0 : Nat) : Int) - 1 = -1 := rfl
      rw [e1, e2, bit_left, bit_left, frL_eq, bit_bTo (x := 0) (y := y) hx (by omega), hr 0 hx, resL_eq, bit_bTo hx hy, resF_at hx, e1, e2, bit_left, bit_left]
      generalize bit L W H (0 : Nat) y = a
      generalize bit L W H (0 : Nat) (y + 1 : Nat) = b
      revert a b; decide
    | succ x ih =>
      intro hx
      have h1 := ih (by omega)
      rw [← fr_eq _ W H (x + 1) (y + 1) hx hy]
      have e1 : ((x + 1 : Nat) : Int) - 1 = (x : Int) := by omega
      rw [e1, e2, frL_eq, bit_bTo (x := x) (y := y + 1) (by omega) hy, h1, bit_bTo (x := x + 1) (y := y) hx (by omega), hr (x + 1) hx, bit_bTo (x := x) (y := y) (by omega) (by omega), hr x (by omega), resL_eq, bit_bTo hx hy, resF_at hx, e1, e2]
      generalize bit L W H x (y + 1 : Nat) = a
      generalize bit L W H (x + 1 : Nat) (y + 1 : Nat) = b
      generalize bit L W H (x + 1 : Nat) y = c
      generalize bit L W H x y = d
      revert a b c d; decide
theorem fr_res {L : List Bool} {W H : Nat} (hL : L.length = W * H) : frL (resL L W H) W H = L := by
  rw [frL_eq]
  exact list_bits hL (fun x y hx hy => fr_res_at y hy x hx)

end Go.Proofs.YtogefmkplkddoaaDoor
