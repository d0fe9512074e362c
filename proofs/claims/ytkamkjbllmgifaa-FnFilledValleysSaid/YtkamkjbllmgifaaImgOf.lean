/- Pictures read as images. -/
import Derived.Test.YtkamkjbllmgifaaPicL
namespace Go.Proofs.Ytkamkjbllmgifaa
open Go.RowKit

def rowOk (W : Nat) (r : ByteArray) : Bool := decide (r.size = W) && r.data.toList.all fun b => b == 35 || b == 46
def picW (rows : List ByteArray) : Nat := (rows.headD ByteArray.empty).size
def sizesOk (rows : List ByteArray) : Bool := inB (picW rows) 1 16 && inB rows.length 1 16
def picOk (rows : List ByteArray) : Bool := sizesOk rows && rows.all (rowOk (picW rows))
/-- Whether pixel number i is black. -/
def pix (rows : List ByteArray) (W i : Nat) : Bool := ((rows.getD (i / W) ByteArray.empty).data.toList.getD (i % W) 0) == 35
def picBits (rows : List ByteArray) : List Bool := (List.range (picW rows * rows.length)).map (pix rows (picW rows))

set_option maxHeartbeats 400000 in
theorem sizeOk_any (a b : Int) (w : World) :
    Calls Try.prog 82 #[.int .i64 a, .int .i64 b] w fun e w' => e = .returned (.bool (inB a 1 16 && inB b 1 16)) ∧ w = w' := by
  cases h1 : inB a 1 16
  · go_enter Try.func82, Try.ntmps82
    go_wp2_with (go_at_call 39; refine (in_any _ _ _ _).mono ?_; rintro e w' ⟨rfl, rfl⟩)
    go_ret
    exact ⟨by simp, rfl⟩
  · go_enter Try.func82, Try.ntmps82
    go_wp2_with (go_at_call 39; refine (in_any _ _ _ _).mono ?_; rintro e w' ⟨rfl, rfl⟩)
    go_ret
    exact ⟨by simp, rfl⟩

/-- What imageOf leaves. -/
structure ImgEnd (w : World) (rows : List ByteArray) (e : Ending) (w' : World) : Prop where
  yes : picOk rows = true → ∃ p g, e = .returned (.tuple #[.pointer (some ⟨p, 0, none⟩), .bool true]) ∧ Img w' p g (picW rows) rows.length (picBits rows) ∧ w.heap.size ≤ p ∧ w.heap.size ≤ g
  no : picOk rows = false → e = .returned (.tuple #[.pointer none, .bool false])
  ext : Below w.heap.size w w'

theorem bytes_at (r : ByteArray) (x : Nat) (h : x < r.size) : r.data.toList.getD x 0 = r[x] := by
  have h' : x < r.data.toList.length := by simpa using h
  simp [List.getD_eq_getElem?_getD, List.getElem?_eq_getElem h']
  rfl
theorem pix_at {rows : List ByteArray} {W y x : Nat} (hy : y < rows.length) (hx : x < W) :
    pix rows W (y * W + x) = ((rows[y]).data.toList.getD x 0 == 35) := by
  have e1 : (y * W + x) / W = y := by
    rw [Nat.mul_comm, Nat.mul_add_div (by omega), Nat.div_eq_of_lt hx]; omega
  have e2 : (y * W + x) % W = x := by
    rw [Nat.mul_comm, Nat.mul_add_mod, Nat.mod_eq_of_lt hx]
  unfold pix
  rw [e1, e2]
  have e3 : rows.getD y ByteArray.empty = rows[y] := by simp [List.getD_eq_getElem?_getD, hy]
  rw [e3]
theorem row_no {W : Nat} {r : ByteArray} (h : r.size ≠ W) : rowOk W r = false := by simp [rowOk, h]
theorem row_no2 {W : Nat} {r : ByteArray} (x : Nat) (h : x < r.size) (h1 : r[x] ≠ 35) (h2 : r[x] ≠ 46) : rowOk W r = false := by
  simp only [rowOk, Bool.and_eq_false_iff]
  right
  apply Bool.eq_false_iff.2
  intro ha
  rw [List.all_eq_true] at ha
  have := ha r[x] (by
    rw [← bytes_at r x h]
    have h' : x < r.data.toList.length := by simpa using h
    simp [List.getD_eq_getElem?_getD, List.getElem?_eq_getElem h'])
  simp [h1, h2] at this
theorem row_yes {W : Nat} {r : ByteArray} (hs : r.size = W) (h : ∀ j (hj : j < r.size), r[j] = 35 ∨ r[j] = 46) : rowOk W r = true := by
  simp only [rowOk, hs, decide_true, Bool.true_and, List.all_eq_true]
  intro b hb
  obtain ⟨j, hj, rfl⟩ := List.mem_iff_getElem.1 hb
  have h1 : r.data[j] = 35 ∨ r.data[j] = 46 := h j (by simpa using hj)
  simpa using h1
theorem picOk_no {rows : List ByteArray} (y : Nat) (h : y < rows.length) (hr : rowOk (picW rows) rows[y] = false) : picOk rows = false := by
  simp only [picOk, Bool.and_eq_false_iff]
  right
  apply Bool.eq_false_iff.2
  intro ha
  rw [List.all_eq_true] at ha
  rw [ha _ (List.getElem_mem h)] at hr
  cases hr
theorem picOk_yes {rows : List ByteArray} (hs : sizesOk rows = true) (h : ∀ y (hy : y < rows.length), rowOk (picW rows) rows[y] = true) : picOk rows = true := by
  simp only [picOk, hs, Bool.true_and, List.all_eq_true]
  intro r hr
  obtain ⟨j, hj, rfl⟩ := List.mem_iff_getElem.1 hr
  exact h j hj
theorem blank_img' (w : World) (k W H : Nat) (o : Obj) : Img (((((w.alloc o).drewN k).alloc (.cells (boolC (List.replicate (W * H) false)) 4))).alloc (.cells #[.int .i64 W, .int .i64 H, .slice (some ⟨w.heap.size + 1, 0, none⟩) (W * H) (W * H)] 125)) (w.heap.size + 1 + 1) (w.heap.size + 1) W H (List.replicate (W * H) false) := by
  have h := blank_img ((w.alloc o).drewN k) W H
  simp only [World.heap_drewN, World.size_alloc] at h
  exact h

end Go.Proofs.Ytkamkjbllmgifaa
