/- The reference's pictures: size, pixel, whether valid. The reference's pictures: whether valid. -/
import Derived.Test.YtogefmkplkddoaaDoorImgOf
import Derived.Test.YtogefmkplkddoaaDoorHQ
namespace Go.Proofs.YtogefmkplkddoaaDoor
open Go.RowKit

/-- A picture that a pointer points to. -/
structure PicAt (w : World) (p : Nat) (A : Option Addr) (c : Nat) (rows : List ByteArray) : Prop where
  lt : p < w.heap.size
  cell : w.cell? ⟨p, 0, none⟩ = some (.slice A rows.length c)
  rd : Rd w A (strs rows)
theorem PicAt.ext {w w' : World} {p : Nat} {A : Option Addr} {c : Nat} {rows : List ByteArray} (h : PicAt w p A c rows) (hb : Below w.heap.size w w') : PicAt w' p A c rows :=
  ⟨Nat.lt_of_lt_of_le h.lt hb.size, (hb.cell (p := ⟨p, 0, none⟩) h.lt).trans h.cell, h.rd.ext hb⟩
theorem PicAt.drewN {w : World} {p : Nat} {A : Option Addr} {c : Nat} {rows : List ByteArray} (h : PicAt w p A c rows) (k : Nat) : PicAt (w.drewN k) p A c rows := ⟨h.lt, h.cell, h.rd⟩
theorem PicAt.row {w : World} {p : Nat} {A : Option Addr} {c : Nat} {rows : List ByteArray} (h : PicAt w p A c rows) (hn : 0 < rows.length) :
    ∃ g, A = some ⟨g, 0, none⟩ ∧ g < w.heap.size ∧ ∀ y (hy : y < rows.length), w.cell? ⟨g, y, none⟩ = some (.string rows[y]) := by
  obtain ⟨g, e, hg, hc⟩ := h.rd (by simpa [strs] using hn)
  exact ⟨g, e, hg, fun y hy => by rw [hc y (by simpa [strs] using hy)]; simp [strs]⟩

theorem side_any (n : Int) (w : World) : Calls Tryd.prog 45 #[.int .i64 n] w fun e w' => e = .returned (.bool (inB n 1 16)) ∧ w = w' := by
  go_enter Tryd.func45, Tryd.ntmps45
  go_wp2_with (go_at_call 80; refine (inS_any _ _ _ _).mono ?_; rintro e w' ⟨rfl, rfl⟩)
  go_ret
  exact ⟨rfl, rfl⟩
theorem picW_head {rows : List ByteArray} (h : 0 < rows.length) : (rows[0]'h).size = picW rows := by
  cases rows with
  | nil => simp at h
  | cons r rs => rfl
theorem width_any (p : Nat) (A : Option Addr) (c : Nat) (rows : List ByteArray) (w : World) (h : PicAt w p A c rows) (hn : 0 < rows.length) :
    Calls Tryd.prog 81 #[.pointer (some ⟨p, 0, none⟩)] w fun e w' => e = .returned (.int .i64 (picW rows)) ∧ w = w' := by
  obtain ⟨g, rfl, hg, hc⟩ := h.row hn
  have c0 := h.cell
  have c1 := hc 0 hn
  have e := picW_head hn
  generalize rows[0] = r at *
  have F : Hid ((picW rows : Int) = r.size) := by rw [Hid, e]
  obtain ⟨n, hn'⟩ : ∃ n, rows.length = n := ⟨_, rfl⟩
  rw [hn'] at c0 hn
  have i1 : (0 : Int) < (n : Int) := by omega
  clear e hc h hn'
  go_enter Tryd.func81, Tryd.ntmps81
  go_wp2_with fail
  go_ret
  exact ⟨ret_int F.out.symm, rfl⟩
theorem height_any (p : Nat) (A : Option Addr) (c : Nat) (rows : List ByteArray) (w : World) (h : PicAt w p A c rows) :
    Calls Tryd.prog 82 #[.pointer (some ⟨p, 0, none⟩)] w fun e w' => e = .returned (.int .i64 rows.length) ∧ w = w' := by
  have c0 := h.cell
  clear h
  generalize rows.length = n at *
  go_enter Tryd.func82, Tryd.ntmps82
  go_wp2_with fail
  go_ret
  exact ⟨rfl, rfl⟩

set_option maxHeartbeats 400000 in
theorem hasS_any (p : Nat) (A : Option Addr) (c : Nat) (rows : List ByteArray) (x y : Int) (w : World) (h : PicAt w p A c rows) (hn : 0 < rows.length) (hW : picW rows ≤ 1000) (hH : rows.length ≤ 1000) :
    Calls Tryd.prog 105 #[.pointer (some ⟨p, 0, none⟩), .int .i64 x, .int .i64 y] w fun e w' => e = .returned (.bool (hasB (picW rows) rows.length x y)) ∧ w = w' := by
  have WH := Lib.hid (width_any p A c rows w h hn)
  have HH := Lib.hid (height_any p A c rows w h)
  clear h
  generalize rows.length = n at *
  generalize picW rows = W at *
  have i1 : IntKind.i64.wrap ((W : Int) - 1) = (W : Int) - 1 := IntWalk.i64_in _ (by omega)
  have i2 : IntKind.i64.wrap ((n : Int) - 1) = (n : Int) - 1 := IntWalk.i64_in _ (by omega)
  cases h1 : inB x 0 ((W : Int) - 1)
  · go_enter Tryd.func105, Tryd.ntmps105
    go_wp2_with (first
      | (go_at_call 80; refine (inS_any _ _ _ _).mono ?_; rintro e w' ⟨rfl, rfl⟩)
      | (go_at_call 81; refine WH.out.mono ?_; rintro e w' ⟨rfl, rfl⟩))
    go_ret
    exact ⟨ret_bool (by simp [hasB, h1]), rfl⟩
  · go_enter Tryd.func105, Tryd.ntmps105
    go_wp2_with (first
      | (go_at_call 80; refine (inS_any _ _ _ _).mono ?_; rintro e w' ⟨rfl, rfl⟩)
      | (go_at_call 81; refine WH.out.mono ?_; rintro e w' ⟨rfl, rfl⟩)
      | (go_at_call 82; refine HH.out.mono ?_; rintro e w' ⟨rfl, rfl⟩))
    go_ret
    exact ⟨ret_bool (by simp [hasB, h1]), rfl⟩

theorem picOk_sizes {rows : List ByteArray} (h : picOk rows = true) : 0 < rows.length ∧ rows.length ≤ 16 ∧ 0 < picW rows ∧ picW rows ≤ 16 := by
  simp only [picOk, sizesOk, Bool.and_eq_true, inB_iff] at h
  omega
theorem picOk_row {rows : List ByteArray} (h : picOk rows = true) {y : Nat} (hy : y < rows.length) : (rows[y]).size = picW rows := by
  simp only [picOk, Bool.and_eq_true, List.all_eq_true] at h
  have := h.2 _ (List.getElem_mem hy)
  simp only [rowOk, Bool.and_eq_true, decide_eq_true_eq] at this
  exact this.1
theorem bit_pix {rows : List ByteArray} {x y : Nat} (hx : x < picW rows) (hy : y < rows.length) :
    bit (picBits rows) (picW rows) rows.length x y = ((rows[y]).data.toList.getD x 0 == 35) := by
  rw [bit_in hx hy, ← pix_at hy hx]
  have hb : y * picW rows + x < picW rows * rows.length := by
    have : y * picW rows + picW rows ≤ picW rows * rows.length := by rw [Nat.mul_comm _ rows.length, ← Nat.succ_mul]; exact Nat.mul_le_mul_right _ hy
    omega
  simp [picBits, List.getD_eq_getElem?_getD, hb]

set_option maxHeartbeats 400000 in
theorem black_any (p : Nat) (A : Option Addr) (c : Nat) (rows : List ByteArray) (x y : Int) (w : World) (h : PicAt w p A c rows) (hok : picOk rows = true) :
    Calls Tryd.prog 83 #[.pointer (some ⟨p, 0, none⟩), .int .i64 x, .int .i64 y] w fun e w' => e = .returned (.bool (bit (picBits rows) (picW rows) rows.length x y)) ∧ w = w' := by
  obtain ⟨s1, s2, s3, s4⟩ := picOk_sizes hok
  have SH := Lib.hid (hasS_any p A c rows x y w h s1 (by omega) (by omega))
  cases hh : hasB (picW rows) rows.length x y
  · rw [hh] at SH
    have F : Hid (bit (picBits rows) (picW rows) rows.length x y = false) := by
      rw [Hid]
      apply Bool.eq_false_iff.2
      intro hb
      simp only [bit, Bool.and_eq_true, decide_eq_true_eq] at hb
      have : hasB (picW rows) rows.length x y = true := hasB_iff.2 (by omega)
      rw [hh] at this; cases this
    clear hh h s1 s2 s3 s4 hok
    go_enter Tryd.func83, Tryd.ntmps83
    go_wp2_with (go_at_call 105; refine SH.out.mono ?_; rintro e w' ⟨rfl, rfl⟩)
    go_ret
    exact ⟨ret_bool F.out.symm, rfl⟩
  · rw [hh] at SH
    obtain ⟨⟨x0, x1⟩, y0, y1⟩ := hasB_iff.1 hh
    obtain ⟨x, rfl⟩ : ∃ k : Nat, x = k := ⟨x.toNat, by omega⟩
    obtain ⟨y, rfl⟩ : ∃ k : Nat, y = k := ⟨y.toNat, by omega⟩
    obtain ⟨g, rfl, hg, hc⟩ := h.row s1
    have c0 := h.cell
    have hy : y < rows.length := by omega
    have c1 := hc y hy
    have e := picOk_row hok hy
    have hx : x < (rows[y]).size := by omega
    have F : Hid (bit (picBits rows) (picW rows) rows.length x y = ((rows[y])[x] == 35)) := by
      rw [Hid, bit_pix (by omega) hy, bytes_at _ _ hx]
    generalize rows[y] = r at *
    have q : ((((r[x]'hx).toNat : Int)) == 35) = (r[x] == 35) := by
      cases hq : r[x] == 35
      · simp only [beq_eq_false_iff_ne, ne_eq] at hq ⊢
        intro h; exact hq (UInt8.toNat_inj.1 (show (r[x]'hx).toNat = 35 by omega))
      · simp only [beq_iff_eq] at hq ⊢
        rw [hq]; rfl
    clear hc h hok
    generalize rows.length = n at *
    have i1 : (0 : Int) ≤ (x : Int) := by omega
    have i2 : (x : Int) < (r.size : Int) := by omega
    have QH := Lib.hid q
    clear hh s1 s2 s3 s4 e q
    go_enter Tryd.func83, Tryd.ntmps83
    go_wp2_with (go_at_call 105; refine SH.out.mono ?_; rintro e w' ⟨rfl, rfl⟩)
    go_ret
    exact ⟨ret_bool (by rw [F.out]; exact QH.out), rfl⟩
end Go.Proofs.YtogefmkplkddoaaDoor

namespace Go.Proofs.YtogefmkplkddoaaDoor
open Go.RowKit

end Go.Proofs.YtogefmkplkddoaaDoor
