/- The reference's contracts at pictures with up to 18 columns and rows. Printed by gen_wide.py. -/
import Derived.Test.YtdhajndmebnknaaGreatBlw
import Derived.Test.YtdhajndmebnknaaGreatLabS
namespace Go.Proofs.YtdhajndmebnknaaGreat
open Go.RowKit

def picOw (rows : List ByteArray) : Bool := decide (0 < rows.length) && (decide (rows.length ≤ 18) && (decide (0 < picW rows) && (decide (picW rows ≤ 18) && rows.all fun r => decide (r.size = picW rows))))
theorem picOw_sizes {rows : List ByteArray} (h : picOw rows = true) : 0 < rows.length ∧ rows.length ≤ 18 ∧ 0 < picW rows ∧ picW rows ≤ 18 := by
  simp only [picOw, Bool.and_eq_true, decide_eq_true_eq] at h
  exact ⟨h.1, h.2.1, h.2.2.1, h.2.2.2.1⟩
theorem picOw_row {rows : List ByteArray} (h : picOw rows = true) {y : Nat} (hy : y < rows.length) : (rows[y]).size = picW rows := by
  simp only [picOw, Bool.and_eq_true, decide_eq_true_eq, List.all_eq_true] at h
  exact h.2.2.2.2 _ (List.getElem_mem hy)
theorem told_ow {L : List Bool} {W H : Nat} (hW0 : 0 < W) (hW : W ≤ 18) (hH0 : 0 < H) (hH : H ≤ 18) : picOw (rowsTo L W H) = true := by
  simp only [picOw, Bool.and_eq_true, decide_eq_true_eq, List.all_eq_true, rowsTo_length, told_w hH0]
  refine ⟨hH0, hH, hW0, hW, fun r hr => ?_⟩
  obtain ⟨y, _, rfl⟩ := List.mem_map.1 hr
  exact rowS_size L W y

set_option maxHeartbeats 400000 in
theorem blackW_any (p : Nat) (A : Option Addr) (c : Nat) (rows : List ByteArray) (x y : Int) (w : World) (h : PicAt w p A c rows) (hok : picOw rows = true) :
    Calls Tryz.prog 60 #[.pointer (some ⟨p, 0, none⟩), .int .i64 x, .int .i64 y] w fun e w' => e = .returned (.bool (bit (picBits rows) (picW rows) rows.length x y)) ∧ w = w' := by
  obtain ⟨s1, s2, s3, s4⟩ := picOw_sizes hok
  have SH := Lib.hid (hasS_any p A c rows x y w h s1 (by omega) (by omega))
  cases hh : hasB (picW rows) rows.length x y
  · rw [hh] at SH
    have F : Hid (bit (picBits rows) (picW rows) rows.length x y = false) := by
      rw [Hid]
      apply Bool.eq_false_iff.2
      intro hb
      simp only [bit, Bool.and_eq_true, decide_eq_true_eq] at hb
      have : hasB (picW rows) rows.length x y = true := hasB_iff.2 (by omega)
      rw [hh] at this; cases this
    clear hh h s1 s2 s3 s4 hok
    go_enter Tryz.func60, Tryz.ntmps60
    go_wp2_with (go_at_call 59; refine SH.out.mono ?_; rintro e w' ⟨rfl, rfl⟩)
    go_ret
    exact ⟨ret_bool F.out.symm, rfl⟩
  · rw [hh] at SH
    obtain ⟨⟨x0, x1⟩, y0, y1⟩ := hasB_iff.1 hh
    obtain ⟨x, rfl⟩ : ∃ k : Nat, x = k := ⟨x.toNat, by omega⟩
    obtain ⟨y, rfl⟩ : ∃ k : Nat, y = k := ⟨y.toNat, by omega⟩
    obtain ⟨g, rfl, hg, hc⟩ := h.row s1
    have c0 := h.cell
    have hy : y < rows.length := by omega
    have c1 := hc y hy
    have e := picOw_row hok hy
    have hx : x < (rows[y]).size := by omega
    have F : Hid (bit (picBits rows) (picW rows) rows.length x y = ((rows[y])[x] == 35)) := by
      rw [Hid, bit_pix (by omega) hy, bytes_at _ _ hx]
    generalize rows[y] = r at *
    have q : ((((r[x]'hx).toNat : Int)) == 35) = (r[x] == 35) := by
      cases hq : r[x] == 35
      · simp only [beq_eq_false_iff_ne, ne_eq] at hq ⊢
        intro h; exact hq (UInt8.toNat_inj.1 (show (r[x]'hx).toNat = 35 by omega))
      · simp only [beq_iff_eq] at hq ⊢
        rw [hq]; rfl
    clear hc h hok
    generalize rows.length = n at *
    have i1 : (0 : Int) ≤ (x : Int) := by omega
    have i2 : (x : Int) < (r.size : Int) := by omega
    have QH := Lib.hid q
    clear hh s1 s2 s3 s4 e q
    go_enter Tryz.func60, Tryz.ntmps60
    go_wp2_with (go_at_call 59; refine SH.out.mono ?_; rintro e w' ⟨rfl, rfl⟩)
    go_ret
    exact ⟨ret_bool (by rw [F.out]; exact QH.out), rfl⟩

end Go.Proofs.YtdhajndmebnknaaGreat
