/- Pictures in memory: the smallest functions of images. -/
import Derived.Test.YtajepoopicoodaaEq
import Derived.Deep.RegionHeld3
namespace Go.Proofs.Ytajepoopicoodaa
open Go.RowKit

def boolC (L : List Bool) : Array Value := (L.map Value.bool).toArray
theorem boolC_get (L : List Bool) (i : Nat) (h : i < L.length) : (boolC L)[i]? = some (.bool L[i]) := by simp [boolC, h]
theorem boolC_set (L : List Bool) (i : Nat) (b : Bool) : (boolC L).setIfInBounds i (.bool b) = boolC (L.set i b) := by
  apply Array.ext'
  simp [boolC, List.map_set]
theorem boolC_made (n : Nat) : madeCells #[Value.bool false] n = boolC (List.replicate n false) := by
  apply Array.ext'
  simp [toList_madeCells_one, boolC]

/-- An image: its block p, the block g of its pixels. -/
structure Img (w : World) (p g W H : Nat) (L : List Bool) : Prop where
  hdr : Blk w p 147 #[.int .i64 W, .int .i64 H, .slice (some ⟨g, 0, none⟩) (W * H) (W * H)]
  bits : Blk w g 4 (boolC L)
  len : L.length = W * H
theorem Img.ne {w : World} {p g W H : Nat} {L : List Bool} (h : Img w p g W H L) : p ≠ g := by
  rintro rfl
  have h1 := h.hdr
  have h2 := h.bits
  rw [Blk] at h1 h2
  rw [h1] at h2
  simp at h2
theorem Img.ext {w w' : World} {p g W H : Nat} {L : List Bool} (h : Img w p g W H L) (hb : Below w.heap.size w w') : Img w' p g W H L :=
  ⟨h.hdr.under hb h.hdr.lt, h.bits.under hb h.bits.lt, h.len⟩
theorem Img.drewN {w : World} {p g W H : Nat} {L : List Bool} (h : Img w p g W H L) (k : Nat) : Img (w.drewN k) p g W H L := ⟨h.hdr, h.bits, h.len⟩
theorem Img.put {w : World} {p g W H : Nat} {L : List Bool} (h : Img w p g W H L) (i : Nat) (b : Bool) : Img (w.setCell ⟨g, i, none⟩ (.bool b)) p g W H (L.set i b) :=
  ⟨h.hdr.apart (by exact h.ne) _, by have := h.bits.store i (.bool b); rwa [boolC_set] at this, by simp [h.len]⟩

/-- Whether a pixel is black. -/
def bit (L : List Bool) (W H : Nat) (x y : Int) : Bool := decide (0 ≤ x) && decide (x < W) && decide (0 ≤ y) && decide (y < H) && L.getD (y * W + x).toNat false
def hasB (W H : Nat) (x y : Int) : Bool := inB x 0 ((W : Int) - 1) && inB y 0 ((H : Int) - 1)
theorem hasB_iff {W H : Nat} {x y : Int} : hasB W H x y = true ↔ (0 ≤ x ∧ x < W) ∧ 0 ≤ y ∧ y < H := by
  simp [hasB, inB]; omega

set_option maxHeartbeats 400000 in
theorem has_any (p g W H : Nat) (L : List Bool) (x y : Int) (w : World) (h : Img w p g W H L) (hW : W ≤ 1000) (hH : H ≤ 1000) :
    Calls Try.prog 133 #[.pointer (some ⟨p, 0, none⟩), .int .i64 x, .int .i64 y] w fun e w' => e = .returned (.bool (hasB W H x y)) ∧ w = w' := by
  have c0 := h.hdr.cell 0
  have c1 := h.hdr.cell 1
  simp at c0 c1
  cases h1 : inB x 0 ((W : Int) - 1)
  · go_enter Try.func133, Try.ntmps133
    go_wp2_with (go_at_call 78; refine (in_any _ _ _ _).mono ?_; rintro e w' ⟨rfl, rfl⟩)
    go_ret
    exact ⟨ret_bool (by simp [hasB, h1]), rfl⟩
  · go_enter Try.func133, Try.ntmps133
    go_wp2_with (go_at_call 78; refine (in_any _ _ _ _).mono ?_; rintro e w' ⟨rfl, rfl⟩)
    go_ret
    exact ⟨ret_bool (by simp [hasB, h1]), rfl⟩

theorem mul_bd {y W H : Nat} (hy : y < H) (hW : W ≤ 1000) (hH : H ≤ 1000) : y * W ≤ 1000000 ∧ y * W + W ≤ W * H := by
  constructor
  · exact Nat.le_trans (Nat.mul_le_mul (show y ≤ 1000 by omega) hW) (by decide)
  · have : (y + 1) * W ≤ H * W := Nat.mul_le_mul_right _ (by omega)
    rw [Nat.mul_comm W H]
    rw [Nat.add_mul, Nat.one_mul] at this
    exact this

set_option maxHeartbeats 1000000 in
theorem get_any (p g W H : Nat) (L : List Bool) (x y : Int) (w : World) (h : Img w p g W H L) (hW : W ≤ 1000) (hH : H ≤ 1000) :
    Calls Try.prog 127 #[.pointer (some ⟨p, 0, none⟩), .int .i64 x, .int .i64 y] w fun e w' => e = .returned (.bool (bit L W H x y)) ∧ ∃ k, w' = w.drewN k := by
  have HA := Lib.hid (fun W' (hh : Img W' p g W H L) => has_any p g W H L x y W' hh hW hH)
  cases h1 : hasB W H x y
  · have F : Hid (bit L W H x y = false) := by
      have : ¬ ((0 ≤ x ∧ x < W) ∧ 0 ≤ y ∧ y < H) := by rw [← hasB_iff]; simp [h1]
      simp only [Hid, bit, Bool.and_eq_false_iff, decide_eq_false_iff_not]; omega
    rw [h1] at HA
    clear h1
    go_enter Try.func127, Try.ntmps127
    go_wp2_with fail
    go_quiet ((go_at_call 133; exact Calls.quiet_of_same ((HA.out _ (h.drewN _)).mono fun _ _ ⟨h, k⟩ => ⟨h, k.symm⟩)))
    go_wp2_with fail
    go_ret
    exact ⟨ret_bool F.out.symm, _, rfl⟩
  · obtain ⟨⟨x0, x1⟩, y0, y1⟩ := hasB_iff.1 h1
    rw [h1] at HA
    clear h1
    obtain ⟨x, rfl⟩ := Int.eq_ofNat_of_zero_le x0
    obtain ⟨y, rfl⟩ := Int.eq_ofNat_of_zero_le y0
    have hb := mul_bd (y := y) (W := W) (H := H) (by omega) hW hH
    have hi : y * W + x < L.length := by rw [h.len]; omega
    have F : Hid (bit L W H x y = L[y * W + x]) := by
      have e : ((y : Int) * W + x).toNat = y * W + x := by omega
      simp [Hid, bit, e, hi]; omega
    have c0 := h.hdr.cell 0
    have c2 := h.hdr.cell 2
    simp at c0 c2
    have c3 := (h.bits.cell (y * W + x)).trans (boolC_get L _ hi)
    generalize L[y * W + x] = b at *
    have i0 : IntKind.i64.wrap ((y : Int) * W) = ((y * W : Nat) : Int) := by rw [IntWalk.i64_in _ (by omega)]; simp
    have i1 : IntKind.i64.wrap (((y * W : Nat) : Int) + x) = ((y * W + x : Nat) : Int) := by rw [IntWalk.i64_in _ (by omega)]; simp
    have i2 : (0 : Int) ≤ ((y * W + x : Nat) : Int) := by omega
    have i3 : ((y * W + x : Nat) : Int) < ((W * H : Nat) : Int) := by have := h.len; omega
    go_enter Try.func127, Try.ntmps127
    go_wp2_with fail
    go_quiet ((go_at_call 133; exact Calls.quiet_of_same ((HA.out _ (h.drewN _)).mono fun _ _ ⟨h, k⟩ => ⟨h, k.symm⟩)))
    go_wp2_with fail
    go_ret
    exact ⟨ret_bool F.out.symm, _, rfl⟩
end Go.Proofs.Ytajepoopicoodaa
