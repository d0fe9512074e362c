/- Plain: a residue and what comes from it undo each other. -/
import Derived.Test.YtdbelajgndclfaaSFrom
namespace Go.Proofs.Ytdbelajgndclfaa
open Go.RowKit

theorem bitsTo_full (b : Nat → Bool) (n : Nat) : bTo b n = bitsTo b n n := (bitsTo_all b n).symm
theorem bTo_get {b : Nat → Bool} {n i : Nat} (h : i < n) : (bTo b n).getD i false = b i := by simp [bTo, List.getD_eq_getElem?_getD, h]
theorem idx_lt {W H x y : Nat} (hx : x < W) (hy : y < H) : y * W + x < W * H := by
  have : y * W + W ≤ W * H := by rw [Nat.mul_comm W H, ← Nat.succ_mul]; exact Nat.mul_le_mul_right _ hy
  omega
theorem bit_bTo {b : Nat → Bool} {W H x y : Nat} (hx : x < W) (hy : y < H) : bit (bTo b (W * H)) W H x y = b (y * W + x) := by
  rw [bit_in hx hy, bTo_get (idx_lt hx hy)]
/-- Where a list is known up to k, its bits before k are those of the whole. -/
theorem bit_before {b : Nat → Bool} {W H x y : Nat} (hx : x < W) (hy : y < H) (x' y' : Int) (h : (x' = (x : Int) - 1 ∧ y' = y) ∨ (x' = x ∧ y' = (y : Int) - 1) ∨ (x' = (x : Int) - 1 ∧ y' = (y : Int) - 1)) :
    bit (bitsTo b (y * W + x) (W * H)) W H x' y' = bit (bTo b (W * H)) W H x' y' := by
  by_cases h0 : x' < 0
  · simp [bit, show ¬ (0 ≤ x') by omega]
  · by_cases h1 : y' < 0
    · simp [bit, show ¬ (0 ≤ y') by omega]
    · obtain ⟨a, rfl⟩ : ∃ a : Nat, x' = a := ⟨x'.toNat, by omega⟩
      obtain ⟨d, rfl⟩ : ∃ d : Nat, y' = d := ⟨y'.toNat, by omega⟩
      have ha : a < W := by omega
      have hd : d < H := by omega
      have hk : d * W + a < y * W + x := by
        rcases h with ⟨h2, h3⟩ | ⟨h2, h3⟩ | ⟨h2, h3⟩
        · have : d = y := by omega
          subst this; omega
        · have : y = d + 1 := by omega
          subst this; rw [Nat.add_mul]; omega
        · have : y = d + 1 := by omega
          subst this; rw [Nat.add_mul]; omega
      rw [bit_to ha hd hk, bit_bTo ha hd]
/-- The equation of what comes from a residue. -/
theorem fr_eq (L : List Bool) (W H x y : Nat) (hx : x < W) (hy : y < H) :
    ((bit L W H x y != bit (frL L W H) W H ((x : Int) - 1) y) != (bit (frL L W H) W H x ((y : Int) - 1) != bit (frL L W H) W H ((x : Int) - 1) ((y : Int) - 1))) = frB L W (y * W + x) := by
  have h := fr_step L W H x y hx hy
  rw [bit_before hx hy _ _ (.inl ⟨rfl, rfl⟩), bit_before hx hy _ _ (.inr (.inl ⟨rfl, rfl⟩)), bit_before hx hy _ _ (.inr (.inr ⟨rfl, rfl⟩))] at h
  exact h
theorem list_bits {L : List Bool} {W H : Nat} (hL : L.length = W * H) {f : Nat → Bool} (h : ∀ x y, x < W → y < H → f (y * W + x) = bit L W H x y) : bTo f (W * H) = L := by
  apply List.ext_getElem
  · rw [bTo_length, hL]
  · intro i h1 h2
    have hW : 0 < W := by
      rcases Nat.eq_zero_or_pos W with e | e
      · subst e; rw [hL] at h2; simp at h2
      · exact e
    have hi : i < W * H := by omega
    have hx := Nat.mod_lt i hW
    have hy : i / W < H := Nat.div_lt_of_lt_mul hi
    have e : i / W * W + i % W = i := by rw [Nat.mul_comm]; exact Nat.div_add_mod i W
    have := h (i % W) (i / W) hx hy
    rw [e, bit_in hx hy, e] at this
    simp only [bTo, List.getElem_map, List.getElem_range]
    rw [this]
    simp [List.getD_eq_getElem?_getD, h2]

theorem res_fr {L : List Bool} {W H : Nat} (hL : L.length = W * H) : resL (frL L W H) W H = L := by
  rw [resL_eq]
  refine list_bits hL (fun x y hx hy => ?_)
  rw [resF_at hx]
  have h := fr_eq L W H x y hx hy
  have e : bit (frL L W H) W H x y = frB L W (y * W + x) := by rw [frL_eq, bit_bTo hx hy]
  rw [e, ← h]
  generalize bit L W H x y = a
  generalize bit (frL L W H) W H ((x : Int) - 1) y = b
  generalize bit (frL L W H) W H x ((y : Int) - 1) = c
  generalize bit (frL L W H) W H ((x : Int) - 1) ((y : Int) - 1) = d
  revert a b c d; decide

theorem fr_res_at {L : List Bool} {W H : Nat} : ∀ (y : Nat), y < H → ∀ x, x < W → frB (resL L W H) W (y * W + x) = bit L W H x y := by
  intro y
  induction y with
  | zero =>
    intro hy x
    induction x with
    | zero =>
      intro hx
      rw [← fr_eq _ W H 0 0 hx hy, resL_eq, bit_bTo hx hy, resF_at hx]
      simp [bit]
    | succ x ih =>
      intro hx
      have h1 := ih (by omega)
      rw [← fr_eq _ W H (x + 1) 0 hx hy]
      have e1 : ((x + 1 : Nat) : Int) - 1 = (x : Int) := by omega
      have e2 : ((0 : Nat) : Int) - 1 = -1 := rfl
      rw [e1, e2, bit_over, bit_over, frL_eq, bit_bTo (x := x) (y := 0) (by omega) hy, h1, resL_eq, bit_bTo hx hy, resF_at hx, e1, e2, bit_over, bit_over]
      generalize bit L W H x (0 : Nat) = a
      generalize bit L W H (x + 1 : Nat) (0 : Nat) = b
      revert a b; decide
  | succ y ihy =>
    intro hy x
    have hr := ihy (by omega)
    have e2 : ((y + 1 : Nat) : Int) - 1 = (y : Int) := by omega
    induction x with
    | zero =>
      intro hx
      rw [← fr_eq _ W H 0 (y + 1) hx hy]
      have e1 : ((0 : Nat) : Int) - 1 = -1 := rfl
      rw [e1, e2, bit_left, bit_left, frL_eq, bit_bTo (x := 0) (y := y) hx (by omega), hr 0 hx, resL_eq, bit_bTo hx hy, resF_at hx, e1, e2, bit_left, bit_left]
      generalize bit L W H (0 : Nat) y = a
      generalize bit L W H (0 : Nat) (y + 1 : Nat) = b
      revert a b; decide
    | succ x ih =>
      intro hx
      have h1 := ih (by omega)
      rw [← fr_eq _ W H (x + 1) (y + 1) hx hy]
      have e1 : ((x + 1 : Nat) : Int) - 1 = (x : Int) := by omega
      rw [e1, e2, frL_eq, bit_bTo (x := x) (y := y + 1) (by omega) hy, h1, bit_bTo (x := x + 1) (y := y) hx (by omega), hr (x + 1) hx, bit_bTo (x := x) (y := y) (by omega) (by omega), hr x (by omega), resL_eq, bit_bTo hx hy, resF_at hx, e1, e2]
      generalize bit L W H x (y + 1 : Nat) = a
      generalize bit L W H (x + 1 : Nat) (y + 1 : Nat) = b
      generalize bit L W H (x + 1 : Nat) y = c
      generalize bit L W H x y = d
      revert a b c d; decide
theorem fr_res {L : List Bool} {W H : Nat} (hL : L.length = W * H) : frL (resL L W H) W H = L := by
  rw [frL_eq]
  exact list_bits hL (fun x y hx hy => fr_res_at y hy x hx)

/-- Rows that were told of bits are a picture with these bits. -/
theorem told_row {L : List Bool} {W H y : Nat} (hy : y < H) : (rowsTo L W H)[y]'(by rw [rowsTo_length]; exact hy) = rowS L W y := by simp [rowsTo]
theorem rowS_size (L : List Bool) (W y : Nat) : (rowS L W y).size = W := by simp [rowS, ByteArray.size, rowB_length]
theorem told_w {L : List Bool} {W H : Nat} (hH : 0 < H) : picW (rowsTo L W H) = W := by
  rw [← picW_head (by rw [rowsTo_length]; exact hH), told_row hH, rowS_size]
theorem rowS_at {L : List Bool} {W y x : Nat} (hx : x < W) : (rowS L W y).data.toList.getD x 0 = if L.getD (y * W + x) false then 35 else 46 := by
  simp [rowS, rowB, List.getD_eq_getElem?_getD, hx]
theorem told_ok {L : List Bool} {W H : Nat} (hW0 : 0 < W) (hW : W ≤ 16) (hH0 : 0 < H) (hH : H ≤ 16) : picOk (rowsTo L W H) = true := by
  refine picOk_yes ?_ (fun y hy => ?_)
  · simp only [sizesOk, told_w hH0, rowsTo_length, Bool.and_eq_true, inB_iff]; omega
  · rw [told_w hH0]
    rw [rowsTo_length] at hy
    rw [told_row hy]
    refine row_yes (rowS_size _ _ _) (fun j hj => ?_)
    rw [rowS_size] at hj
    have h1 := rowS_at (L := L) (y := y) hj
    rw [bytes_at _ _ (by rw [rowS_size]; exact hj)] at h1
    rw [h1]
    split <;> simp
theorem told_bits {L : List Bool} {W H : Nat} (hH0 : 0 < H) (hL : L.length = W * H) : picBits (rowsTo L W H) = L := by
  have e : picBits (rowsTo L W H) = bTo (pix (rowsTo L W H) W) (W * H) := by
    rw [picBits, told_w hH0, rowsTo_length]; rfl
  rw [e]
  refine list_bits hL (fun x y hx hy => ?_)
  rw [pix_at (rows := rowsTo L W H) (by rw [rowsTo_length]; exact hy) hx, told_row hy, rowS_at hx, bit_in hx hy]
  cases L.getD (y * W + x) false <;> rfl
end Go.Proofs.Ytdbelajgndclfaa
