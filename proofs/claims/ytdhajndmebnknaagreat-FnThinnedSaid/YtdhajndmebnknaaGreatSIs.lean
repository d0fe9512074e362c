/- The reference's pictures: size, pixel, whether valid. The reference's pictures: whether valid. -/
import Derived.Test.YtdhajndmebnknaaGreatImgOf
import Derived.Test.YtdhajndmebnknaaGreatHQ
namespace Go.Proofs.YtdhajndmebnknaaGreat
open Go.RowKit

/-- A picture that a pointer points to. -/
structure PicAt (w : World) (p : Nat) (A : Option Addr) (c : Nat) (rows : List ByteArray) : Prop where
  lt : p < w.heap.size
  cell : w.cell? ⟨p, 0, none⟩ = some (.slice A rows.length c)
  rd : Rd w A (strs rows)
theorem PicAt.ext {w w' : World} {p : Nat} {A : Option Addr} {c : Nat} {rows : List ByteArray} (h : PicAt w p A c rows) (hb : Below w.heap.size w w') : PicAt w' p A c rows :=
  ⟨Nat.lt_of_lt_of_le h.lt hb.size, (hb.cell (p := ⟨p, 0, none⟩) h.lt).trans h.cell, h.rd.ext hb⟩
theorem PicAt.drewN {w : World} {p : Nat} {A : Option Addr} {c : Nat} {rows : List ByteArray} (h : PicAt w p A c rows) (k : Nat) : PicAt (w.drewN k) p A c rows := ⟨h.lt, h.cell, h.rd⟩
theorem PicAt.row {w : World} {p : Nat} {A : Option Addr} {c : Nat} {rows : List ByteArray} (h : PicAt w p A c rows) (hn : 0 < rows.length) :
    ∃ g, A = some ⟨g, 0, none⟩ ∧ g < w.heap.size ∧ ∀ y (hy : y < rows.length), w.cell? ⟨g, y, none⟩ = some (.string rows[y]) := by
  obtain ⟨g, e, hg, hc⟩ := h.rd (by simpa [strs] using hn)
  exact ⟨g, e, hg, fun y hy => by rw [hc y (by simpa [strs] using hy)]; simp [strs]⟩

theorem side_any (n : Int) (w : World) : Calls Tryz.prog 43 #[.int .i64 n] w fun e w' => e = .returned (.bool (inB n 1 16)) ∧ w = w' := by
  go_enter Tryz.func43, Tryz.ntmps43
  go_wp2_with (go_at_call 41; refine (inS_any _ _ _ _).mono ?_; rintro e w' ⟨rfl, rfl⟩)
  go_ret
  exact ⟨rfl, rfl⟩
theorem picW_head {rows : List ByteArray} (h : 0 < rows.length) : (rows[0]'h).size = picW rows := by
  cases rows with
  | nil => simp at h
  | cons r rs => rfl
theorem width_any (p : Nat) (A : Option Addr) (c : Nat) (rows : List ByteArray) (w : World) (h : PicAt w p A c rows) (hn : 0 < rows.length) :
    Calls Tryz.prog 78 #[.pointer (some ⟨p, 0, none⟩)] w fun e w' => e = .returned (.int .i64 (picW rows)) ∧ w = w' := by
  obtain ⟨g, rfl, hg, hc⟩ := h.row hn
  have c0 := h.cell
  have c1 := hc 0 hn
  have e := picW_head hn
  generalize rows[0] = r at *
  have F : Hid ((picW rows : Int) = r.size) := by rw [Hid, e]
  obtain ⟨n, hn'⟩ : ∃ n, rows.length = n := ⟨_, rfl⟩
  rw [hn'] at c0 hn
  have i1 : (0 : Int) < (n : Int) := by omega
  clear e hc h hn'
  go_enter Tryz.func78, Tryz.ntmps78
  go_wp2_with fail
  go_ret
  exact ⟨ret_int F.out.symm, rfl⟩
theorem height_any (p : Nat) (A : Option Addr) (c : Nat) (rows : List ByteArray) (w : World) (h : PicAt w p A c rows) :
    Calls Tryz.prog 79 #[.pointer (some ⟨p, 0, none⟩)] w fun e w' => e = .returned (.int .i64 rows.length) ∧ w = w' := by
  have c0 := h.cell
  clear h
  generalize rows.length = n at *
  go_enter Tryz.func79, Tryz.ntmps79
  go_wp2_with fail
  go_ret
  exact ⟨rfl, rfl⟩

set_option maxHeartbeats 400000 in
theorem hasS_any (p : Nat) (A : Option Addr) (c : Nat) (rows : List ByteArray) (x y : Int) (w : World) (h : PicAt w p A c rows) (hn : 0 < rows.length) (hW : picW rows ≤ 1000) (hH : rows.length ≤ 1000) :
    Calls Tryz.prog 59 #[.pointer (some ⟨p, 0, none⟩), .int .i64 x, .int .i64 y] w fun e w' => e = .returned (.bool (hasB (picW rows) rows.length x y)) ∧ w = w' := by
  have WH := Lib.hid (width_any p A c rows w h hn)
  have HH := Lib.hid (height_any p A c rows w h)
  clear h
  generalize rows.length = n at *
  generalize picW rows = W at *
  have i1 : IntKind.i64.wrap ((W : Int) - 1) = (W : Int) - 1 := IntWalk.i64_in _ (by omega)
  have i2 : IntKind.i64.wrap ((n : Int) - 1) = (n : Int) - 1 := IntWalk.i64_in _ (by omega)
  cases h1 : inB x 0 ((W : Int) - 1)
  · go_enter Tryz.func59, Tryz.ntmps59
    go_wp2_with (first
      | (go_at_call 41; refine (inS_any _ _ _ _).mono ?_; rintro e w' ⟨rfl, rfl⟩)
      | (go_at_call 78; refine WH.out.mono ?_; rintro e w' ⟨rfl, rfl⟩))
    go_ret
    exact ⟨ret_bool (by simp [hasB, h1]), rfl⟩
  · go_enter Tryz.func59, Tryz.ntmps59
    go_wp2_with (first
      | (go_at_call 41; refine (inS_any _ _ _ _).mono ?_; rintro e w' ⟨rfl, rfl⟩)
      | (go_at_call 78; refine WH.out.mono ?_; rintro e w' ⟨rfl, rfl⟩)
      | (go_at_call 79; refine HH.out.mono ?_; rintro e w' ⟨rfl, rfl⟩))
    go_ret
    exact ⟨ret_bool (by simp [hasB, h1]), rfl⟩

theorem picOk_sizes {rows : List ByteArray} (h : picOk rows = true) : 0 < rows.length ∧ rows.length ≤ 16 ∧ 0 < picW rows ∧ picW rows ≤ 16 := by
  simp only [picOk, sizesOk, Bool.and_eq_true, inB_iff] at h
  omega
theorem picOk_row {rows : List ByteArray} (h : picOk rows = true) {y : Nat} (hy : y < rows.length) : (rows[y]).size = picW rows := by
  simp only [picOk, Bool.and_eq_true, List.all_eq_true] at h
  have := h.2 _ (List.getElem_mem hy)
  simp only [rowOk, Bool.and_eq_true, decide_eq_true_eq] at this
  exact this.1
theorem bit_pix {rows : List ByteArray} {x y : Nat} (hx : x < picW rows) (hy : y < rows.length) :
    bit (picBits rows) (picW rows) rows.length x y = ((rows[y]).data.toList.getD x 0 == 35) := by
  rw [bit_in hx hy, ← pix_at hy hx]
  have hb : y * picW rows + x < picW rows * rows.length := by
    have : y * picW rows + picW rows ≤ picW rows * rows.length := by rw [Nat.mul_comm _ rows.length, ← Nat.succ_mul]; exact Nat.mul_le_mul_right _ hy
    omega
  simp [picBits, List.getD_eq_getElem?_getD, hb]

set_option maxHeartbeats 400000 in
theorem black_any (p : Nat) (A : Option Addr) (c : Nat) (rows : List ByteArray) (x y : Int) (w : World) (h : PicAt w p A c rows) (hok : picOk rows = true) :
    Calls Tryz.prog 60 #[.pointer (some ⟨p, 0, none⟩), .int .i64 x, .int .i64 y] w fun e w' => e = .returned (.bool (bit (picBits rows) (picW rows) rows.length x y)) ∧ w = w' := by
  obtain ⟨s1, s2, s3, s4⟩ := picOk_sizes hok
  have SH := Lib.hid (hasS_any p A c rows x y w h s1 (by omega) (by omega))
  cases hh : hasB (picW rows) rows.length x y
  · rw [hh] at SH
    have F : Hid (bit (picBits rows) (picW rows) rows.length x y = false) := by
      rw [Hid]
      apply Bool.eq_false_iff.2
      intro hb
      simp only [bit, Bool.and_eq_true, decide_eq_true_eq] at hb
      have : hasB (picW rows) rows.length x y = true := hasB_iff.2 (by omega)
      rw [hh] at this; cases this
    clear hh h s1 s2 s3 s4 hok
    go_enter Tryz.func60, Tryz.ntmps60
    go_wp2_with (go_at_call 59; refine SH.out.mono ?_; rintro e w' ⟨rfl, rfl⟩)
    go_ret
    exact ⟨ret_bool F.out.symm, rfl⟩
  · rw [hh] at SH
    obtain ⟨⟨x0, x1⟩, y0, y1⟩ := hasB_iff.1 hh
    obtain ⟨x, rfl⟩ : ∃ k : Nat, x = k := ⟨x.toNat, by omega⟩
    obtain ⟨y, rfl⟩ : ∃ k : Nat, y = k := ⟨y.toNat, by omega⟩
    obtain ⟨g, rfl, hg, hc⟩ := h.row s1
    have c0 := h.cell
    have hy : y < rows.length := by omega
    have c1 := hc y hy
    have e := picOk_row hok hy
    have hx : x < (rows[y]).size := by omega
    have F : Hid (bit (picBits rows) (picW rows) rows.length x y = ((rows[y])[x] == 35)) := by
      rw [Hid, bit_pix (by omega) hy, bytes_at _ _ hx]
    generalize rows[y] = r at *
    have q : ((((r[x]'hx).toNat : Int)) == 35) = (r[x] == 35) := by
      cases hq : r[x] == 35
      · simp only [beq_eq_false_iff_ne, ne_eq] at hq ⊢
        intro h; exact hq (UInt8.toNat_inj.1 (show (r[x]'hx).toNat = 35 by omega))
      · simp only [beq_iff_eq] at hq ⊢
        rw [hq]; rfl
    clear hc h hok
    generalize rows.length = n at *
    have i1 : (0 : Int) ≤ (x : Int) := by omega
    have i2 : (x : Int) < (r.size : Int) := by omega
    have QH := Lib.hid q
    clear hh s1 s2 s3 s4 e q
    go_enter Tryz.func60, Tryz.ntmps60
    go_wp2_with (go_at_call 59; refine SH.out.mono ?_; rintro e w' ⟨rfl, rfl⟩)
    go_ret
    exact ⟨ret_bool (by rw [F.out]; exact QH.out), rfl⟩
end Go.Proofs.YtdhajndmebnknaaGreat

namespace Go.Proofs.YtdhajndmebnknaaGreat
open Go.RowKit

set_option maxRecDepth 100000 in
set_option maxHeartbeats 1000000 in
theorem isPic_any (p : Nat) (A : Option Addr) (c : Nat) (rows : List ByteArray) (w : World) (h : PicAt w p A c rows) (hn : rows.length ≤ 1000000000) :
    Calls Tryz.prog 19 #[.pointer (some ⟨p, 0, none⟩)] w fun e w' => e = .returned (.bool (picOk rows)) ∧ ∃ k, w' = w.drewN k := by
  have c0 := h.cell
  obtain ⟨n, hnL⟩ : ∃ n, rows.length = n := ⟨_, rfl⟩
  rw [hnL] at c0 hn
  have SN := Lib.hid (fun W => side_any (n : Int) W)
  cases h1 : inB (n : Int) 1 16
  · have F : Hid (picOk rows = false) := by simp [Hid, picOk, sizesOk, hnL, h1]
    rw [h1] at SN
    clear hnL h1 h
    go_enter Tryz.func19, Tryz.ntmps19
    go_wp2_with (go_at_call 43; refine (SN.out _).mono ?_; rintro e w' ⟨rfl, rfl⟩)
    go_ret
    exact ⟨ret_bool F.out.symm, 0, rfl⟩
  · rw [h1] at SN
    have hb := inB_iff.1 h1
    have n0 : 0 < rows.length := by omega
    obtain ⟨g, rfl, hg, hc⟩ := h.row n0
    have c1 := hc 0 n0
    have eW := picW_head n0
    generalize rows[0] = r0 at *
    have SW := Lib.hid (fun W => side_any (r0.size : Int) W)
    have i0 : (0 : Int) < (n : Int) := by omega
    cases h2 : inB (r0.size : Int) 1 16
    · have F : Hid (picOk rows = false) := by simp [Hid, picOk, sizesOk, hnL, ← eW, h2]
      rw [h2] at SW
      clear hnL h1 h h2 hc hb n0 eW
      go_enter Tryz.func19, Tryz.ntmps19
      go_wp2_with (first | (go_at_call_of 43 (Value.int .i64 (n : Int)); refine (SN.out _).mono ?_; rintro e w' ⟨rfl, rfl⟩) | (go_at_call_of 43 (Value.int .i64 (r0.size : Int)); refine (SW.out _).mono ?_; rintro e w' ⟨rfl, rfl⟩))
      go_ret
      exact ⟨ret_bool F.out.symm, 0, rfl⟩
    · have hsz : Hid (sizesOk rows = true) := by simp [Hid, sizesOk, hnL, ← eW, h1, h2]
      rw [h2] at SW
      have R := Lib.hid (And.intro hnL (And.intro eW hc))
      have w16 := (inB_iff.1 h2).2
      clear hnL h1 h h2 hc n0 eW
      go_enter Tryz.func19, Tryz.ntmps19
      go_wp2_with (first | (go_at_call_of 43 (Value.int .i64 (n : Int)); refine (SN.out _).mono ?_; rintro e w' ⟨rfl, rfl⟩) | (go_at_call_of 43 (Value.int .i64 (r0.size : Int)); refine (SW.out _).mono ?_; rintro e w' ⟨rfl, rfl⟩))
      go_loopw [3] (fun i wr => ∃ y j : Nat, y ≤ n ∧ i = .int .i64 y ∧ (∀ j (hj : j < rows.length), j < y → rowOk r0.size rows[j] = true) ∧ wr = w.drewN j) (fun i _ => n - (intOf i).toNat)
      case atStart => exact ⟨0, 0, Nat.zero_le _, rfl, fun j _ h => absurd h (Nat.not_lt_zero _), rfl⟩
      case round =>
        obtain ⟨y, jd, hy, rfl, hok, rfl⟩ := hrel
        have HOK := Lib.hid hok
        clear hok
        by_cases hlt : y < n
        · obtain ⟨hnL, eW, hc⟩ := R.out
          have hys : y < rows.length := by omega
          have cy := hc y hys
          have NO := Lib.hid (picOk_no y hys)
          have HY := Lib.hid (fun h : rowOk r0.size rows[y] = true => (show ∀ j (hj : j < rows.length), j < y + 1 → rowOk r0.size rows[j] = true from fun j hj h1 => by
            by_cases e : j = y
            · subst e; exact h
            · exact HOK.out j hj (by omega)))
          rw [← eW] at NO
          clear hnL eW hc
          generalize rows[y] = r at *
          have i2 : (0 : Int) ≤ (y : Int) := by omega
          have i3 : (y : Int) < (n : Int) := by omega
          by_cases hrs : r.size = r0.size
          · have t1 : ((r.size : Int) != (r0.size : Int)) = false := by simp [hrs]
            have HRS := Lib.hid hrs
            clear hrs
            go_wp2_with fail
            go_quiet (fail)
            go_wp2_with fail
            have hr16 : r.size ≤ 16 := by have := HRS.out; omega
            go_loopw [4] (fun i wr => ∃ x j : Nat, x ≤ r.size ∧ i = .int .i64 x ∧ (∀ j (hj : j < r.size), j < x → r[j] = 35 ∨ r[j] = 46) ∧ wr = w.drewN j) (fun i _ => r.size - (intOf i).toNat)
            case atStart => exact ⟨0, jd + nq, Nat.zero_le _, rfl, fun j _ h => absurd h (Nat.not_lt_zero _), World.drewN_drewN _ _ _⟩
            case round =>
              obtain ⟨x, jd2, hx, rfl, hok2, rfl⟩ := hrel
              have HO2 := Lib.hid hok2
              clear hok2
              by_cases hxl : x < r.size
              · have NO2 := Lib.hid (fun h1 h2 => NO.out (row_no2 x hxl h1 h2))
                have HX := Lib.hid (fun h : r[x] = 35 ∨ r[x] = 46 => (show ∀ j (hj : j < r.size), j < x + 1 → r[j] = 35 ∨ r[j] = 46 from fun j hj h1 => by
                  by_cases e : j = x
                  · subst e; exact h
                  · exact HO2.out j hj (by omega)))
                have i4 : (0 : Int) ≤ (x : Int) := by omega
                have i5 : (x : Int) < (r.size : Int) := by omega
                by_cases e35 : r[x] = 35
                · have q : ((r[x]'hxl).toNat : Int) = 35 := by rw [e35]; rfl
                  have HX' := Lib.hid (HX.out (by left; exact e35))
                  clear NO2 HX
                  go_wp2_with fail
                  go_roundw
                  case rel => exact ⟨x + 1, _, by omega, by go_num, HX'.out, rfl⟩
                  case measure => simp [intOf]; omega
                · by_cases e46 : r[x] = 46
                  · have q : ((r[x]'hxl).toNat : Int) = 46 := by rw [e46]; rfl
                    have HX' := Lib.hid (HX.out (by right; exact e46))
                    clear NO2 HX
                    go_wp2_with fail
                    go_roundw
                    case rel => exact ⟨x + 1, _, by omega, by go_num, HX'.out, rfl⟩
                    case measure => simp [intOf]; omega
                  · have F := Lib.hid (NO2.out e35 e46)
                    have q1 : (((r[x]'hxl).toNat : Int) != 35) = true := by
                      simp only [bne_iff_ne, ne_eq]; intro h; exact e35 (UInt8.toNat_inj.1 (show (r[x]'hxl).toNat = 35 by omega))
                    have q2 : (((r[x]'hxl).toNat : Int) != 46) = true := by
                      simp only [bne_iff_ne, ne_eq]; intro h; exact e46 (UInt8.toNat_inj.1 (show (r[x]'hxl).toNat = 46 by omega))
                    clear NO2 HX e35 e46
                    go_wp2_with fail
                    go_ret
                    exact ⟨ret_bool F.out.symm, _, rfl⟩
              · obtain rfl : x = r.size := by omega
                have HY' := Lib.hid (HY.out (row_yes HRS.out (fun j hj => HO2.out j hj hj)))
                go_wp2_with fail
                go_roundw
                case rel => exact ⟨y + 1, _, by omega, by go_num, HY'.out, rfl⟩
                case measure => simp [intOf]; omega
          · have t1 : ((r.size : Int) != (r0.size : Int)) = true := by simp; omega
            have F := Lib.hid (NO.out (row_no hrs))
            clear hrs
            go_wp2_with fail
            go_quiet (fail)
            go_wp2_with fail
            go_ret
            exact ⟨ret_bool F.out.symm, jd + nq, World.drewN_drewN _ _ _⟩
        · obtain rfl : y = n := by omega
          obtain ⟨hnL, eW, hc⟩ := R.out
          have Y : Hid (picOk rows = true) := picOk_yes hsz.out (fun j hj => by rw [← eW]; exact HOK.out j hj (by omega))
          clear hnL eW hc
          go_wp2_with fail
          go_ret
          exact ⟨ret_bool Y.out.symm, _, rfl⟩
end Go.Proofs.YtdhajndmebnknaaGreat
