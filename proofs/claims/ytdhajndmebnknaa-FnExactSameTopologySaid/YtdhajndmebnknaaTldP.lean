/- Pictures told of bits; the list of a picture's pixels. -/
import Derived.Test.YtdhajndmebnknaaSMake
import Derived.Test.YtdhajndmebnknaaImgOf
namespace Go.Proofs.Ytdhajndmebnknaa
open Go.RowKit

/-- The first k bits by a function. -/
def bTo (f : Nat → Bool) (k : Nat) : List Bool := (List.range k).map f
theorem bTo_succ (f : Nat → Bool) (k : Nat) : bTo f (k + 1) = bTo f k ++ [f k] := by simp [bTo, List.range_succ]
theorem bTo_length (f : Nat → Bool) (k : Nat) : (bTo f k).length = k := by simp [bTo]
theorem bTo_get {b : Nat → Bool} {n i : Nat} (h : i < n) : (bTo b n).getD i false = b i := by simp [bTo, List.getD_eq_getElem?_getD, h]
theorem idx_lt {W H x y : Nat} (hx : x < W) (hy : y < H) : y * W + x < W * H := by
  have : y * W + W ≤ W * H := by rw [Nat.mul_comm W H, ← Nat.succ_mul]; exact Nat.mul_le_mul_right _ hy
  omega
theorem bit_bTo {b : Nat → Bool} {W H x y : Nat} (hx : x < W) (hy : y < H) : bit (bTo b (W * H)) W H x y = b (y * W + x) := by
  rw [bit_in hx hy, bTo_get (idx_lt hx hy)]
theorem list_bits {L : List Bool} {W H : Nat} (hL : L.length = W * H) {f : Nat → Bool} (h : ∀ x y, x < W → y < H → f (y * W + x) = bit L W H x y) : bTo f (W * H) = L := by
  apply List.ext_getElem
  · rw [bTo_length, hL]
  · intro i h1 h2
    have hW : 0 < W := by
      rcases Nat.eq_zero_or_pos W with e | e
      · subst e; rw [hL] at h2; simp at h2
      · exact e
    have hi : i < W * H := by omega
    have hx := Nat.mod_lt i hW
    have hy : i / W < H := Nat.div_lt_of_lt_mul hi
    have e : i / W * W + i % W = i := by rw [Nat.mul_comm]; exact Nat.div_add_mod i W
    have := h (i % W) (i / W) hx hy
    rw [e, bit_in hx hy, e] at this
    simp only [bTo, List.getElem_map, List.getElem_range]
    rw [this]
    simp [List.getD_eq_getElem?_getD, h2]

/-- Rows that were told of bits are a picture with these bits. -/
theorem told_row {L : List Bool} {W H y : Nat} (hy : y < H) : (rowsTo L W H)[y]'(by rw [rowsTo_length]; exact hy) = rowS L W y := by simp [rowsTo]
theorem rowS_size (L : List Bool) (W y : Nat) : (rowS L W y).size = W := by simp [rowS, ByteArray.size, rowB_length]
theorem told_w {L : List Bool} {W H : Nat} (hH : 0 < H) : picW (rowsTo L W H) = W := by
  rw [← picW_head (by rw [rowsTo_length]; exact hH), told_row hH, rowS_size]
theorem rowS_at {L : List Bool} {W y x : Nat} (hx : x < W) : (rowS L W y).data.toList.getD x 0 = if L.getD (y * W + x) false then 35 else 46 := by
  simp [rowS, rowB, List.getD_eq_getElem?_getD, hx]
theorem told_ok {L : List Bool} {W H : Nat} (hW0 : 0 < W) (hW : W ≤ 16) (hH0 : 0 < H) (hH : H ≤ 16) : picOk (rowsTo L W H) = true := by
  refine picOk_yes ?_ (fun y hy => ?_)
  · simp only [sizesOk, told_w hH0, rowsTo_length, Bool.and_eq_true, inB_iff]; omega
  · rw [told_w hH0]
    rw [rowsTo_length] at hy
    rw [told_row hy]
    refine row_yes (rowS_size _ _ _) (fun j hj => ?_)
    rw [rowS_size] at hj
    have h1 := rowS_at (L := L) (y := y) hj
    rw [bytes_at _ _ (by rw [rowS_size]; exact hj)] at h1
    rw [h1]
    split <;> simp
theorem told_bits {L : List Bool} {W H : Nat} (hH0 : 0 < H) (hL : L.length = W * H) : picBits (rowsTo L W H) = L := by
  have e : picBits (rowsTo L W H) = bTo (pix (rowsTo L W H) W) (W * H) := by
    rw [picBits, told_w hH0, rowsTo_length]; rfl
  rw [e]
  refine list_bits hL (fun x y hx hy => ?_)
  rw [pix_at (rows := rowsTo L W H) (by rw [rowsTo_length]; exact hy) hx, told_row hy, rowS_at hx, bit_in hx hy]
  cases L.getD (y * W + x) false <;> rfl
set_option maxRecDepth 100000 in
set_option maxHeartbeats 1000000 in
theorem listP_any (p : Nat) (A0 : Option Addr) (c0 : Nat) (rows : List ByteArray) (w : World) (h : PicAt w p A0 c0 rows) (hok : picOk rows = true) :
    Calls Try.prog 94 #[.pointer (some ⟨p, 0, none⟩)] w fun e w' => ∃ A c, e = .returned (.slice A (picW rows * rows.length) c) ∧ w'.ownsRow w.heap.size 4 1 (.slice A (picW rows * rows.length) c) (picW rows * rows.length) (bools (picBits rows)) ∧ Below w.heap.size w w' := by
  obtain ⟨s1, s2, s3, s4⟩ := picOk_sizes hok
  obtain ⟨g, rfl, hg, hc⟩ := h.row s1
  have k0 := h.cell
  have hp := h.lt
  have ROW := Lib.hid (fun y (hy : y < rows.length) => (show ∃ r : ByteArray, r.size = picW rows ∧ w.cell? ⟨g, y, none⟩ = some (.string r) ∧ ∀ x (hx : x < r.size), pix rows (picW rows) (y * picW rows + x) = (((r[x]'hx).toNat : Int) == 35) from by
    refine ⟨rows[y], picOk_row hok hy, hc y hy, fun x hx => ?_⟩
    have hx' : x < picW rows := by have := picOk_row hok hy; omega
    rw [pix_at hy hx', bytes_at _ _ hx]
    cases hq : rows[y][x] == 35
    · simp only [beq_eq_false_iff_ne, ne_eq] at hq
      symm
      simp only [beq_eq_false_iff_ne, ne_eq]
      intro h; exact hq (UInt8.toNat_inj.1 (show (rows[y][x]).toNat = 35 by omega))
    · simp only [beq_iff_eq] at hq
      rw [hq]; rfl))
  have E : Hid (picBits rows = bTo (pix rows (picW rows)) (picW rows * rows.length)) := rfl
  rw [E.out]
  clear E h hok hc
  generalize pix rows (picW rows) = pf at *
  generalize picW rows = W at *
  generalize rows.length = H at *
  have hrow0 := World.ownsRow_lit (e := 4) (size := 1) w #[] 0 (Nat.le_refl _) (by decide) rfl
  have B0 : Below w.heap.size w (w.alloc (.cells #[] 4)) := Ext.more (Ext.refl _) _
  have WH : W * H ≤ 256 := Nat.le_trans (Nat.mul_le_mul s4 s2) (by decide)
  go_enter Try.func94, Try.ntmps94
  go_wp2_with fail
  go_loopw [3, 4, 5] (fun v i _ wr => ∃ (y c : Nat) (A : Option Addr), y ≤ H ∧ i = .int .i64 y ∧ v = .slice A (y * W) c ∧ wr.ownsRow w.heap.size 4 1 (.slice A (y * W) c) (y * W) (bools (bTo pf (y * W))) ∧ Below w.heap.size w wr) (fun _ i _ _ => H - (intOf i).toNat)
  case atStart => exact ⟨0, 0, _, Nat.zero_le _, rfl, by rw [Nat.zero_mul], by rw [Nat.zero_mul]; simpa [bTo, bools] using hrow0, B0⟩
  case round =>
    obtain ⟨y, c, A, hy, rfl, rfl, hown, hb⟩ := hrel
    clear hrow0 B0
    have k0r := (hb.cell (p := ⟨p, 0, none⟩) hp).trans k0
    by_cases hlt : y < H
    · obtain ⟨r, hrs, hr, hpx⟩ := ROW.out y hlt
      have SUCC : Hid ((y + 1) * W = y * W + W) := Nat.succ_mul _ _
      have YB : y * W + W ≤ W * H := by rw [Nat.mul_comm W H, ← Nat.succ_mul]; exact Nat.mul_le_mul_right _ hlt
      have i0 : (0 : Int) ≤ (y : Int) := by omega
      have i1 : (y : Int) < (H : Int) := by omega
      have PX := Lib.hid hpx
      have HRS := Lib.hid hrs
      clear hpx
      go_wp2_with fail
      go_loopw [3, 5] (fun v i wr => ∃ (x c : Nat) (A : Option Addr), x ≤ W ∧ i = .int .i64 x ∧ v = .slice A (y * W + x) c ∧ wr.ownsRow w.heap.size 4 1 (.slice A (y * W + x) c) (y * W + x) (bools (bTo pf (y * W + x))) ∧ Below w.heap.size w wr) (fun _ i _ => W - (intOf i).toNat)
      case atStart => exact ⟨0, _, _, Nat.zero_le _, rfl, rfl, hown, hb⟩
      case round =>
        obtain ⟨x, c2, A2, hx, rfl, rfl, hown2, hb2⟩ := hrel
        clear hown hb k0r
        have k0r := (hb2.cell (p := ⟨p, 0, none⟩) hp).trans k0
        have hrr := (hb2.cell (p := ⟨g, y, none⟩) hg).trans hr
        have hsz := hb2.size
        by_cases hxl : x < W
        · have PX1 := Lib.hid (PX.out x (by omega))
          have BS := Lib.hid (bTo_succ pf (y * W + x))
          have j0 : (0 : Int) ≤ (x : Int) := by omega
          have j1 : (x : Int) < (r.size : Int) := by omega
          go_wp2_with (at_builtin; refine wpList_app boolT (by rfl) _ _ (by rfl) w.heap.size (.slice A2 (y * W + x) c2) (y * W + x) (bools (bTo pf (y * W + x))) (by rfl) (hown2.alloc _) wr.heap.size #[.bool _] (by rfl) (heap_alloc_new _ _) rfl (by simp [Value.oneCell']) (by omega) (by simp; omega) ?_; intro g3 cap3 w3 hown3 hgrow3 hat3 hlt3)
          go_roundw
          case rel =>
            refine ⟨x + 1, cap3, some ⟨g3, 0, none⟩, by omega, by go_num, rfl, ?_, (hb2.alloc hsz _).grown hgrow3 (by simp; omega) (fun z hz => (hown2.lt z hz).1)⟩
            rw [show y * W + (x + 1) = y * W + x + 1 from rfl, BS.out, PX1.out]
            simpa [bools] using hown3
          case measure => simp [intOf]; omega
        · obtain rfl : x = W := by omega
          have j1 : ¬ (x : Int) < (r.size : Int) := by omega
          go_wp2_with fail
          go_roundw
          case rel => exact ⟨y + 1, c2, A2, by omega, by go_num, by rw [SUCC.out], by rw [SUCC.out]; exact hown2, hb2⟩
          case measure => simp [intOf]; omega
    · obtain rfl : y = H := by omega
      go_wp2_with fail
      go_ret
      exact ⟨A, c, by rw [Nat.mul_comm W y]; rfl, by rw [Nat.mul_comm W y]; exact hown, hb⟩
end Go.Proofs.Ytdhajndmebnknaa
