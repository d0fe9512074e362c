/- The reference's pictures: whether valid. -/
import Derived.Test.YtdbelajgndclfaaSPic
namespace Go.Proofs.Ytdbelajgndclfaa
open Go.RowKit

set_option maxRecDepth 100000 in
set_option maxHeartbeats 1000000 in
theorem isPic_any (p : Nat) (A : Option Addr) (c : Nat) (rows : List ByteArray) (w : World) (h : PicAt w p A c rows) (hn : rows.length ≤ 1000000000) :
    Calls Try.prog 63 #[.pointer (some ⟨p, 0, none⟩)] w fun e w' => e = .returned (.bool (picOk rows)) ∧ ∃ k, w' = w.drewN k := by
  have c0 := h.cell
  obtain ⟨n, hnL⟩ : ∃ n, rows.length = n := ⟨_, rfl⟩
  rw [hnL] at c0 hn
  have SN := Lib.hid (fun W => side_any (n : Int) W)
  cases h1 : inB (n : Int) 1 16
  · have F : Hid (picOk rows = false) := by simp [Hid, picOk, sizesOk, hnL, h1]
    rw [h1] at SN
    clear hnL h1 h
    go_enter Try.func63, Try.ntmps63
    go_wp2_with (go_at_call 125; refine (SN.out _).mono ?_; rintro e w' ⟨rfl, rfl⟩)
    go_ret
    exact ⟨ret_bool F.out.symm, 0, rfl⟩
  · rw [h1] at SN
    have hb := inB_iff.1 h1
    have n0 : 0 < rows.length := by omega
    obtain ⟨g, rfl, hg, hc⟩ := h.row n0
    have c1 := hc 0 n0
    have eW := picW_head n0
    generalize rows[0] = r0 at *
    have SW := Lib.hid (fun W => side_any (r0.size : Int) W)
    have i0 : (0 : Int) < (n : Int) := by omega
    cases h2 : inB (r0.size : Int) 1 16
    · have F : Hid (picOk rows = false) := by simp [Hid, picOk, sizesOk, hnL, ← eW, h2]
      rw [h2] at SW
      clear hnL h1 h h2 hc hb n0 eW
      go_enter Try.func63, Try.ntmps63
      go_wp2_with (first | (go_at_call_of 125 (Value.int .i64 (n : Int)); refine (SN.out _).mono ?_; rintro e w' ⟨rfl, rfl⟩) | (go_at_call_of 125 (Value.int .i64 (r0.size : Int)); refine (SW.out _).mono ?_; rintro e w' ⟨rfl, rfl⟩))
      go_ret
      exact ⟨ret_bool F.out.symm, 0, rfl⟩
    · have hsz : Hid (sizesOk rows = true) := by simp [Hid, sizesOk, hnL, ← eW, h1, h2]
      rw [h2] at SW
      have R := Lib.hid (And.intro hnL (And.intro eW hc))
      have w16 := (inB_iff.1 h2).2
      clear hnL h1 h h2 hc n0 eW
      go_enter Try.func63, Try.ntmps63
      go_wp2_with (first | (go_at_call_of 125 (Value.int .i64 (n : Int)); refine (SN.out _).mono ?_; rintro e w' ⟨rfl, rfl⟩) | (go_at_call_of 125 (Value.int .i64 (r0.size : Int)); refine (SW.out _).mono ?_; rintro e w' ⟨rfl, rfl⟩))
      go_loopw [3] (fun i wr => ∃ y j : Nat, y ≤ n ∧ i = .int .i64 y ∧ (∀ j (hj : j < rows.length), j < y → rowOk r0.size rows[j] = true) ∧ wr = w.drewN j) (fun i _ => n - (intOf i).toNat)
      case atStart => exact ⟨0, 0, Nat.zero_le _, rfl, fun j _ h => absurd h (Nat.not_lt_zero _), rfl⟩
      case round =>
        obtain ⟨y, jd, hy, rfl, hok, rfl⟩ := hrel
        have HOK := Lib.hid hok
        clear hok
        by_cases hlt : y < n
        · obtain ⟨hnL, eW, hc⟩ := R.out
          have hys : y < rows.length := by omega
          have cy := hc y hys
          have NO := Lib.hid (picOk_no y hys)
          have HY := Lib.hid (fun h : rowOk r0.size rows[y] = true => (show ∀ j (hj : j < rows.length), j < y + 1 → rowOk r0.size rows[j] = true from fun j hj h1 => by
            by_cases e : j = y
            · subst e; exact h
            · exact HOK.out j hj (by omega)))
          rw [← eW] at NO
          clear hnL eW hc
          generalize rows[y] = r at *
          have i2 : (0 : Int) ≤ (y : Int) := by omega
          have i3 : (y : Int) < (n : Int) := by omega
          by_cases hrs : r.size = r0.size
          · have t1 : ((r.size : Int) != (r0.size : Int)) = false := by simp [hrs]
            have HRS := Lib.hid hrs
            clear hrs
            go_wp2_with fail
            go_quiet (fail)
            go_wp2_with fail
            have hr16 : r.size ≤ 16 := by have := HRS.out; omega
            go_loopw [4] (fun i wr => ∃ x j : Nat, x ≤ r.size ∧ i = .int .i64 x ∧ (∀ j (hj : j < r.size), j < x → r[j] = 35 ∨ r[j] = 46) ∧ wr = w.drewN j) (fun i _ => r.size - (intOf i).toNat)
            case atStart => exact ⟨0, jd + nq, Nat.zero_le _, rfl, fun j _ h => absurd h (Nat.not_lt_zero _), World.drewN_drewN _ _ _⟩
            case round =>
              obtain ⟨x, jd2, hx, rfl, hok2, rfl⟩ := hrel
              have HO2 := Lib.hid hok2
              clear hok2
              by_cases hxl : x < r.size
              · have NO2 := Lib.hid (fun h1 h2 => NO.out (row_no2 x hxl h1 h2))
                have HX := Lib.hid (fun h : r[x] = 35 ∨ r[x] = 46 => (show ∀ j (hj : j < r.size), j < x + 1 → r[j] = 35 ∨ r[j] = 46 from fun j hj h1 => by
                  by_cases e : j = x
                  · subst e; exact h
                  · exact HO2.out j hj (by omega)))
                have i4 : (0 : Int) ≤ (x : Int) := by omega
                have i5 : (x : Int) < (r.size : Int) := by omega
                by_cases e35 : r[x] = 35
                · have q : ((r[x]'hxl).toNat : Int) = 35 := by rw [e35]; rfl
                  have HX' := Lib.hid (HX.out (by left; exact e35))
                  clear NO2 HX
                  go_wp2_with fail
                  go_roundw
                  case rel => exact ⟨x + 1, _, by omega, by go_num, HX'.out, rfl⟩
                  case measure => simp [intOf]; omega
                · by_cases e46 : r[x] = 46
                  · have q : ((r[x]'hxl).toNat : Int) = 46 := by rw [e46]; rfl
                    have HX' := Lib.hid (HX.out (by right; exact e46))
                    clear NO2 HX
                    go_wp2_with fail
                    go_roundw
                    case rel => exact ⟨x + 1, _, by omega, by go_num, HX'.out, rfl⟩
                    case measure => simp [intOf]; omega
                  · have F := Lib.hid (NO2.out e35 e46)
                    have q1 : (((r[x]'hxl).toNat : Int) != 35) = true := by
                      simp only [bne_iff_ne, ne_eq]; intro h; exact e35 (UInt8.toNat_inj.1 (show (r[x]'hxl).toNat = 35 by omega))
                    have q2 : (((r[x]'hxl).toNat : Int) != 46) = true := by
                      simp only [bne_iff_ne, ne_eq]; intro h; exact e46 (UInt8.toNat_inj.1 (show (r[x]'hxl).toNat = 46 by omega))
                    clear NO2 HX e35 e46
                    go_wp2_with fail
                    go_ret
                    exact ⟨ret_bool F.out.symm, _, rfl⟩
              · obtain rfl : x = r.size := by omega
                have HY' := Lib.hid (HY.out (row_yes HRS.out (fun j hj => HO2.out j hj hj)))
                go_wp2_with fail
                go_roundw
                case rel => exact ⟨y + 1, _, by omega, by go_num, HY'.out, rfl⟩
                case measure => simp [intOf]; omega
          · have t1 : ((r.size : Int) != (r0.size : Int)) = true := by simp; omega
            have F := Lib.hid (NO.out (row_no hrs))
            clear hrs
            go_wp2_with fail
            go_quiet (fail)
            go_wp2_with fail
            go_ret
            exact ⟨ret_bool F.out.symm, jd + nq, World.drewN_drewN _ _ _⟩
        · obtain rfl : y = n := by omega
          obtain ⟨hnL, eW, hc⟩ := R.out
          have Y : Hid (picOk rows = true) := picOk_yes hsz.out (fun j hj => by rw [← eW]; exact HOK.out j hj (by omega))
          clear hnL eW hc
          go_wp2_with fail
          go_ret
          exact ⟨ret_bool Y.out.symm, _, rfl⟩
end Go.Proofs.Ytdbelajgndclfaa
