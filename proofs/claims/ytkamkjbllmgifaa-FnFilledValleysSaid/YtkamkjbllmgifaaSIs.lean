/- The reference's pictures: size, pixel, whether valid. The reference's pictures: whether valid. -/
import Derived.Test.YtkamkjbllmgifaaImgOf
import Derived.Test.YtkamkjbllmgifaaHQ
namespace Go.Proofs.Ytkamkjbllmgifaa
open Go.RowKit

/-- A picture that a pointer points to. -/
structure PicAt (w : World) (p : Nat) (A : Option Addr) (c : Nat) (rows : List ByteArray) : Prop where
  lt : p < w.heap.size
  cell : w.cell? ⟨p, 0, none⟩ = some (.slice A rows.length c)
  rd : Rd w A (strs rows)
theorem PicAt.ext {w w' : World} {p : Nat} {A : Option Addr} {c : Nat} {rows : List ByteArray} (h : PicAt w p A c rows) (hb : Below w.heap.size w w') : PicAt w' p A c rows :=
  ⟨Nat.lt_of_lt_of_le h.lt hb.size, (hb.cell (p := ⟨p, 0, none⟩) h.lt).trans h.cell, h.rd.ext hb⟩
theorem PicAt.drewN {w : World} {p : Nat} {A : Option Addr} {c : Nat} {rows : List ByteArray} (h : PicAt w p A c rows) (k : Nat) : PicAt (w.drewN k) p A c rows := ⟨h.lt, h.cell, h.rd⟩
theorem PicAt.row {w : World} {p : Nat} {A : Option Addr} {c : Nat} {rows : List ByteArray} (h : PicAt w p A c rows) (hn : 0 < rows.length) :
    ∃ g, A = some ⟨g, 0, none⟩ ∧ g < w.heap.size ∧ ∀ y (hy : y < rows.length), w.cell? ⟨g, y, none⟩ = some (.string rows[y]) := by
  obtain ⟨g, e, hg, hc⟩ := h.rd (by simpa [strs] using hn)
  exact ⟨g, e, hg, fun y hy => by rw [hc y (by simpa [strs] using hy)]; simp [strs]⟩

theorem side_any (n : Int) (w : World) : Calls Try.prog 112 #[.int .i64 n] w fun e w' => e = .returned (.bool (inB n 1 16)) ∧ w = w' := by
  go_enter Try.func112, Try.ntmps112
  go_wp2_with (go_at_call 62; refine (inS_any _ _ _ _).mono ?_; rintro e w' ⟨rfl, rfl⟩)
  go_ret
  exact ⟨rfl, rfl⟩
theorem picW_head {rows : List ByteArray} (h : 0 < rows.length) : (rows[0]'h).size = picW rows := by
  cases rows with
  | nil => simp at h
  | cons r rs => rfl
theorem picOk_sizes {rows : List ByteArray} (h : picOk rows = true) : 0 < rows.length ∧ rows.length ≤ 16 ∧ 0 < picW rows ∧ picW rows ≤ 16 := by
  simp only [picOk, sizesOk, Bool.and_eq_true, inB_iff] at h
  omega
theorem picOk_row {rows : List ByteArray} (h : picOk rows = true) {y : Nat} (hy : y < rows.length) : (rows[y]).size = picW rows := by
  simp only [picOk, Bool.and_eq_true, List.all_eq_true] at h
  have := h.2 _ (List.getElem_mem hy)
  simp only [rowOk, Bool.and_eq_true, decide_eq_true_eq] at this
  exact this.1
theorem bit_pix {rows : List ByteArray} {x y : Nat} (hx : x < picW rows) (hy : y < rows.length) :
    bit (picBits rows) (picW rows) rows.length x y = ((rows[y]).data.toList.getD x 0 == 35) := by
  rw [bit_in hx hy, ← pix_at hy hx]
  have hb : y * picW rows + x < picW rows * rows.length := by
    have : y * picW rows + picW rows ≤ picW rows * rows.length := by rw [Nat.mul_comm _ rows.length, ← Nat.succ_mul]; exact Nat.mul_le_mul_right _ hy
    omega
  simp [picBits, List.getD_eq_getElem?_getD, hb]

end Go.Proofs.Ytkamkjbllmgifaa

namespace Go.Proofs.Ytkamkjbllmgifaa
open Go.RowKit

end Go.Proofs.Ytkamkjbllmgifaa
