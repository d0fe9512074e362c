/- Desks: names, pictures in a list, the two tests of a desk. -/
import Derived.Test.YtogefmkplkddoaaSIs
import Derived.Test.YtogefmkplkddoaaPicL
namespace Go.Proofs.Ytogefmkplkddoaa
open Go.RowKit

/-- A picture at a place of a block. -/
structure PicAtO (w : World) (p o : Nat) (A : Option Addr) (c : Nat) (rows : List ByteArray) : Prop where
  lt : p < w.heap.size
  cell : w.cell? ⟨p, o, none⟩ = some (.slice A rows.length c)
  rd : Rd w A (strs rows)
theorem PicAtO.row {w : World} {p o : Nat} {A : Option Addr} {c : Nat} {rows : List ByteArray} (h : PicAtO w p o A c rows) (hn : 0 < rows.length) :
    ∃ g, A = some ⟨g, 0, none⟩ ∧ g < w.heap.size ∧ ∀ y (hy : y < rows.length), w.cell? ⟨g, y, none⟩ = some (.string rows[y]) := by
  obtain ⟨g, e, hg, hc⟩ := h.rd (by simpa [strs] using hn)
  exact ⟨g, e, hg, fun y hy => by rw [hc y (by simpa [strs] using hy)]; simp [strs]⟩
set_option maxRecDepth 100000 in
set_option maxHeartbeats 1000000 in
theorem isPicO_any (p o : Nat) (A : Option Addr) (c : Nat) (rows : List ByteArray) (w : World) (h : PicAtO w p o A c rows) (hn : rows.length ≤ 1000000000) :
    Calls Try.prog 40 #[.pointer (some ⟨p, o, none⟩)] w fun e w' => e = .returned (.bool (picOk rows)) ∧ ∃ k, w' = w.drewN k := by
  have c0 := h.cell
  obtain ⟨n, hnL⟩ : ∃ n, rows.length = n := ⟨_, rfl⟩
  rw [hnL] at c0 hn
  have SN := Lib.hid (fun W => side_any (n : Int) W)
  cases h1 : inB (n : Int) 1 16
  · have F : Hid (picOk rows = false) := by simp [Hid, picOk, sizesOk, hnL, h1]
    rw [h1] at SN
    clear hnL h1 h
    go_enter Try.func40, Try.ntmps40
    go_wp2_with (go_at_call 62; refine (SN.out _).mono ?_; rintro e w' ⟨rfl, rfl⟩)
    go_ret
    exact ⟨ret_bool F.out.symm, 0, rfl⟩
  · rw [h1] at SN
    have hb := inB_iff.1 h1
    have n0 : 0 < rows.length := by omega
    obtain ⟨g, rfl, hg, hc⟩ := h.row n0
    have c1 := hc 0 n0
    have eW := picW_head n0
    generalize rows[0] = r0 at *
    have SW := Lib.hid (fun W => side_any (r0.size : Int) W)
    have i0 : (0 : Int) < (n : Int) := by omega
    cases h2 : inB (r0.size : Int) 1 16
    · have F : Hid (picOk rows = false) := by simp [Hid, picOk, sizesOk, hnL, ← eW, h2]
      rw [h2] at SW
      clear hnL h1 h h2 hc hb n0 eW
      go_enter Try.func40, Try.ntmps40
      go_wp2_with (first | (go_at_call_of 62 (Value.int .i64 (n : Int)); refine (SN.out _).mono ?_; rintro e w' ⟨rfl, rfl⟩) | (go_at_call_of 62 (Value.int .i64 (r0.size : Int)); refine (SW.out _).mono ?_; rintro e w' ⟨rfl, rfl⟩))
      go_ret
      exact ⟨ret_bool F.out.symm, 0, rfl⟩
    · have hsz : Hid (sizesOk rows = true) := by simp [Hid, sizesOk, hnL, ← eW, h1, h2]
      rw [h2] at SW
      have R := Lib.hid (And.intro hnL (And.intro eW hc))
      have w16 := (inB_iff.1 h2).2
      clear hnL h1 h h2 hc n0 eW
      go_enter Try.func40, Try.ntmps40
      go_wp2_with (first | (go_at_call_of 62 (Value.int .i64 (n : Int)); refine (SN.out _).mono ?_; rintro e w' ⟨rfl, rfl⟩) | (go_at_call_of 62 (Value.int .i64 (r0.size : Int)); refine (SW.out _).mono ?_; rintro e w' ⟨rfl, rfl⟩))
      go_loopw [3] (fun i wr => ∃ y j : Nat, y ≤ n ∧ i = .int .i64 y ∧ (∀ j (hj : j < rows.length), j < y → rowOk r0.size rows[j] = true) ∧ wr = w.drewN j) (fun i _ => n - (intOf i).toNat)
      case atStart => exact ⟨0, 0, Nat.zero_le _, rfl, fun j _ h => absurd h (Nat.not_lt_zero _), rfl⟩
      case round =>
        obtain ⟨y, jd, hy, rfl, hok, rfl⟩ := hrel
        have HOK := Lib.hid hok
        clear hok
        by_cases hlt : y < n
        · obtain ⟨hnL, eW, hc⟩ := R.out
          have hys : y < rows.length := by omega
          have cy := hc y hys
          have NO := Lib.hid (picOk_no y hys)
          have HY := Lib.hid (fun h : rowOk r0.size rows[y] = true => (show ∀ j (hj : j < rows.length), j < y + 1 → rowOk r0.size rows[j] = true from fun j hj h1 => by
            by_cases e : j = y
            · subst e; exact h
            · exact HOK.out j hj (by omega)))
          rw [← eW] at NO
          clear hnL eW hc
          generalize rows[y] = r at *
          have i2 : (0 : Int) ≤ (y : Int) := by omega
          have i3 : (y : Int) < (n : Int) := by omega
          by_cases hrs : r.size = r0.size
          · have t1 : ((r.size : Int) != (r0.size : Int)) = false := by simp [hrs]
            have HRS := Lib.hid hrs
            clear hrs
            go_wp2_with fail
            go_quiet (fail)
            go_wp2_with fail
            have hr16 : r.size ≤ 16 := by have := HRS.out; omega
            go_loopw [4] (fun i wr => ∃ x j : Nat, x ≤ r.size ∧ i = .int .i64 x ∧ (∀ j (hj : j < r.size), j < x → r[j] = 35 ∨ r[j] = 46) ∧ wr = w.drewN j) (fun i _ => r.size - (intOf i).toNat)
            case atStart => exact ⟨0, jd + nq, Nat.zero_le _, rfl, fun j _ h => absurd h (Nat.not_lt_zero _), World.drewN_drewN _ _ _⟩
            case round =>
              obtain ⟨x, jd2, hx, rfl, hok2, rfl⟩ := hrel
              have HO2 := Lib.hid hok2
              clear hok2
              by_cases hxl : x < r.size
              · have NO2 := Lib.hid (fun h1 h2 => NO.out (row_no2 x hxl h1 h2))
                have HX := Lib.hid (fun h : r[x] = 35 ∨ r[x] = 46 => (show ∀ j (hj : j < r.size), j < x + 1 → r[j] = 35 ∨ r[j] = 46 from fun j hj h1 => by
                  by_cases e : j = x
                  · subst e; exact h
                  · exact HO2.out j hj (by omega)))
                have i4 : (0 : Int) ≤ (x : Int) := by omega
                have i5 : (x : Int) < (r.size : Int) := by omega
                by_cases e35 : r[x] = 35
                · have q : ((r[x]'hxl).toNat : Int) = 35 := by rw [e35]; rfl
                  have HX' := Lib.hid (HX.out (by left; exact e35))
                  clear NO2 HX
                  go_wp2_with fail
                  go_roundw
                  case rel => exact ⟨x + 1, _, by omega, by go_num, HX'.out, rfl⟩
                  case measure => simp [intOf]; omega
                · by_cases e46 : r[x] = 46
                  · have q : ((r[x]'hxl).toNat : Int) = 46 := by rw [e46]; rfl
                    have HX' := Lib.hid (HX.out (by right; exact e46))
                    clear NO2 HX
                    go_wp2_with fail
                    go_roundw
                    case rel => exact ⟨x + 1, _, by omega, by go_num, HX'.out, rfl⟩
                    case measure => simp [intOf]; omega
                  · have F := Lib.hid (NO2.out e35 e46)
                    have q1 : (((r[x]'hxl).toNat : Int) != 35) = true := by
                      simp only [bne_iff_ne, ne_eq]; intro h; exact e35 (UInt8.toNat_inj.1 (show (r[x]'hxl).toNat = 35 by omega))
                    have q2 : (((r[x]'hxl).toNat : Int) != 46) = true := by
                      simp only [bne_iff_ne, ne_eq]; intro h; exact e46 (UInt8.toNat_inj.1 (show (r[x]'hxl).toNat = 46 by omega))
                    clear NO2 HX e35 e46
                    go_wp2_with fail
                    go_ret
                    exact ⟨ret_bool F.out.symm, _, rfl⟩
              · obtain rfl : x = r.size := by omega
                have HY' := Lib.hid (HY.out (row_yes HRS.out (fun j hj => HO2.out j hj hj)))
                go_wp2_with fail
                go_roundw
                case rel => exact ⟨y + 1, _, by omega, by go_num, HY'.out, rfl⟩
                case measure => simp [intOf]; omega
          · have t1 : ((r.size : Int) != (r0.size : Int)) = true := by simp; omega
            have F := Lib.hid (NO.out (row_no hrs))
            clear hrs
            go_wp2_with fail
            go_quiet (fail)
            go_wp2_with fail
            go_ret
            exact ⟨ret_bool F.out.symm, jd + nq, World.drewN_drewN _ _ _⟩
        · obtain rfl : y = n := by omega
          obtain ⟨hnL, eW, hc⟩ := R.out
          have Y : Hid (picOk rows = true) := picOk_yes hsz.out (fun j hj => by rw [← eW]; exact HOK.out j hj (by omega))
          clear hnL eW hc
          go_wp2_with fail
          go_ret
          exact ⟨ret_bool Y.out.symm, _, rfl⟩

def azB (c : UInt8) : Bool := decide (97 ≤ c.toNat) && decide (c.toNat ≤ 122)
def nameOk (s : ByteArray) : Bool := s.data.toList.all azB && decide (1 ≤ s.size) && decide (s.size ≤ 8)
theorem name_bad {s : ByteArray} (i : Nat) (h : i < s.size) (hb : azB s[i] = false) : nameOk s = false := by
  rw [nameOk, show s.data.toList.all azB = false from by
    rw [List.all_eq_false]
    exact ⟨s[i], List.mem_of_getElem (i := i) (h := h) rfl, by simp [hb]⟩]
  rfl
theorem name_all {s : ByteArray} (h : ∀ i (h : i < s.size), azB s[i] = true) : nameOk s = (decide (1 ≤ s.size) && decide (s.size ≤ 8)) := by
  rw [nameOk, show s.data.toList.all azB = true from by
    rw [List.all_eq_true]
    intro x hx
    obtain ⟨i, hi, rfl⟩ := List.getElem_of_mem hx
    exact h i hi]
  rfl
set_option maxHeartbeats 1000000 in
theorem isNameI_any (s : ByteArray) (w : World) (hs : s.size ≤ 1000000000) : Calls Try.prog 49 #[.string s] w fun e w' => e = .returned (.bool (nameOk s)) ∧ w = w' := by
  have NB := Lib.hid (fun i h hb => @name_bad s i h hb)
  have NA := Lib.hid (fun h => @name_all s h)
  go_enter Try.func49, Try.ntmps49
  go_wp2_with fail
  go_loopw [2, 6] (fun _ iv wr => ∃ k : Nat, k ≤ s.size ∧ iv = .int .i64 k ∧ Hid (∀ i (h : i < s.size), i < k → azB s[i] = true) ∧ wr = w) (fun _ iv _ => s.size - (intOf iv).toNat)
  case atStart => exact ⟨0, Nat.zero_le _, rfl, fun _ _ h => absurd h (Nat.not_lt_zero _), rfl⟩
  case round =>
    obtain ⟨k, hk, rfl, hA, rfl⟩ := hrel
    by_cases hlt : k < s.size
    · have i0 : (0 : Int) ≤ (k : Int) := by omega
      have i1 : (k : Int) < (s.size : Int) := by omega
      by_cases hlo : s[k].toNat < 97
      · have F : Hid (nameOk s = false) := NB.out k hlt (by simp [azB]; omega)
        have q0 : ((s[k].toNat : Nat) : Int) < 97 := by omega
        clear hA hlo
        go_wp2_with fail
        go_ret
        exact ⟨by rw [F.out]; rfl, rfl⟩
      by_cases hhi : 122 < s[k].toNat
      · have F : Hid (nameOk s = false) := NB.out k hlt (by simp [azB]; omega)
        have q0 : ¬ ((s[k].toNat : Nat) : Int) < 97 := by omega
        have q1 : (122 : Int) < ((s[k].toNat : Nat) : Int) := by omega
        clear hA hlo hhi
        go_wp2_with fail
        go_ret
        exact ⟨by rw [F.out]; rfl, rfl⟩
      have q0 : ¬ ((s[k].toNat : Nat) : Int) < 97 := by omega
      have q1 : ¬ (122 : Int) < ((s[k].toNat : Nat) : Int) := by omega
      have HA : Hid (∀ i (h : i < s.size), i < k + 1 → azB s[i] = true) := fun i h h2 => by
        rcases Nat.lt_succ_iff_lt_or_eq.1 h2 with h3 | rfl
        · exact hA.out i h h3
        · simp [azB]; omega
      clear hA hlo hhi
      go_wp2_with fail
      go_roundw
      case rel => exact ⟨k + 1, by omega, by go_num, HA, by first | rfl | trivial⟩
      case measure => simp [intOf]; omega
    · obtain rfl : k = s.size := by omega
      have F := Lib.hid (NA.out (fun i h => hA.out i h h))
      clear hA
      by_cases h1 : 1 ≤ s.size
      · have q1 : (1 : Int) ≤ (s.size : Int) := by omega
        by_cases h8 : s.size ≤ 8
        · have q8 : (s.size : Int) ≤ 8 := by omega
          have G : Hid (nameOk s = true) := by rw [Hid, F.out]; simp [h1, h8]
          clear h1 h8
          go_wp2_with fail
          go_ret
          exact ⟨by rw [G.out]; first | rfl | simp [q8] | simp [q1, q8], rfl⟩
        · have q8 : ¬ (s.size : Int) ≤ 8 := by omega
          have G : Hid (nameOk s = false) := by rw [Hid, F.out]; simp [h8]
          clear h1 h8
          go_wp2_with fail
          go_ret
          exact ⟨by rw [G.out]; first | rfl | simp [q8] | simp [q1, q8], rfl⟩
      · have q1 : ¬ (1 : Int) ≤ (s.size : Int) := by omega
        have G : Hid (nameOk s = false) := by rw [Hid, F.out]; simp [h1]
        clear h1
        go_wp2_with fail
        go_ret
        exact ⟨by rw [G.out]; first | rfl | simp [q1], rfl⟩
set_option maxHeartbeats 1000000 in
theorem isNameS_any (s : ByteArray) (w : World) (hs : s.size ≤ 1000000000) : Calls Try.prog 72 #[.string s] w fun e w' => e = .returned (.bool (nameOk s)) ∧ w = w' := by
  have NB := Lib.hid (fun i h hb => @name_bad s i h hb)
  have NA := Lib.hid (fun h => @name_all s h)
  go_enter Try.func72, Try.ntmps72
  go_wp2_with fail
  go_loopw [3] (fun iv wr => ∃ k : Nat, k ≤ s.size ∧ iv = .int .i64 k ∧ Hid (∀ i (h : i < s.size), i < k → azB s[i] = true) ∧ wr = w) (fun iv _ => s.size - (intOf iv).toNat)
  case atStart => exact ⟨0, Nat.zero_le _, rfl, fun _ _ h => absurd h (Nat.not_lt_zero _), rfl⟩
  case round =>
    obtain ⟨k, hk, rfl, hA, rfl⟩ := hrel
    by_cases hlt : k < s.size
    · have i0 : (0 : Int) ≤ (k : Int) := by omega
      have i1 : (k : Int) < (s.size : Int) := by omega
      by_cases hlo : s[k].toNat < 97
      · have F : Hid (nameOk s = false) := NB.out k hlt (by simp [azB]; omega)
        have q0 : ((s[k].toNat : Nat) : Int) < 97 := by omega
        clear hA hlo
        go_wp2_with fail
        go_ret
        exact ⟨by rw [F.out]; rfl, rfl⟩
      by_cases hhi : 122 < s[k].toNat
      · have F : Hid (nameOk s = false) := NB.out k hlt (by simp [azB]; omega)
        have q0 : ¬ ((s[k].toNat : Nat) : Int) < 97 := by omega
        have q1 : (122 : Int) < ((s[k].toNat : Nat) : Int) := by omega
        clear hA hlo hhi
        go_wp2_with fail
        go_ret
        exact ⟨by rw [F.out]; rfl, rfl⟩
      have q0 : ¬ ((s[k].toNat : Nat) : Int) < 97 := by omega
      have q1 : ¬ (122 : Int) < ((s[k].toNat : Nat) : Int) := by omega
      have HA : Hid (∀ i (h : i < s.size), i < k + 1 → azB s[i] = true) := fun i h h2 => by
        rcases Nat.lt_succ_iff_lt_or_eq.1 h2 with h3 | rfl
        · exact hA.out i h h3
        · simp [azB]; omega
      clear hA hlo hhi
      go_wp2_with fail
      go_roundw
      case rel => exact ⟨k + 1, by omega, by go_num, HA, by first | rfl | trivial⟩
      case measure => simp [intOf]; omega
    · obtain rfl : k = s.size := by omega
      have F := Lib.hid (NA.out (fun i h => hA.out i h h))
      clear hA
      by_cases h1 : 1 ≤ s.size
      · have q1 : (1 : Int) ≤ (s.size : Int) := by omega
        by_cases h8 : s.size ≤ 8
        · have q8 : (s.size : Int) ≤ 8 := by omega
          have G : Hid (nameOk s = true) := by rw [Hid, F.out]; simp [h1, h8]
          clear h1 h8
          go_wp2_with fail
          go_ret
          exact ⟨by rw [G.out]; first | rfl | simp [q8] | simp [q1, q8], rfl⟩
        · have q8 : ¬ (s.size : Int) ≤ 8 := by omega
          have G : Hid (nameOk s = false) := by rw [Hid, F.out]; simp [h8]
          clear h1 h8
          go_wp2_with fail
          go_ret
          exact ⟨by rw [G.out]; first | rfl | simp [q8] | simp [q1, q8], rfl⟩
      · have q1 : ¬ (1 : Int) ≤ (s.size : Int) := by omega
        have G : Hid (nameOk s = false) := by rw [Hid, F.out]; simp [h1]
        clear h1
        go_wp2_with fail
        go_ret
        exact ⟨by rw [G.out]; first | rfl | simp [q1], rfl⟩
set_option maxRecDepth 100000 in
set_option maxHeartbeats 1000000 in
theorem validPicB_any (A : Option Addr) (c : Nat) (rows : List ByteArray) (w : World) (h : Rd w A (strs rows)) (hn : rows.length ≤ 1000000000) :
    Calls Try.prog 50 #[.agg #[.slice A rows.length c]] w fun e w' => e = .returned (.bool (picOk rows)) ∧ Below w.heap.size w w' := by
  have B1 : Below w.heap.size w (w.alloc (.cells #[.slice A rows.length c] 41)) := Ext.more (Ext.refl _) _
  have IM := Lib.hid (imageOf_any A c rows _ (h.ext B1) hn)
  have IH := Lib.hid (IM.out.mono (fun e w' hI => (show (∃ v, e = .returned (.tuple #[v, .bool (picOk rows)])) ∧ Below _ _ w' from ⟨(by
    cases hp : picOk rows with
    | true => obtain ⟨p, g, h1, _⟩ := hI.yes hp; exact ⟨_, h1⟩
    | false => exact ⟨_, hI.no hp⟩), hI.ext⟩)))
  clear h IM
  generalize picOk rows = b at *
  generalize rows.length = n at *
  go_enter Try.func50, Try.ntmps50
  go_wp2_with fail
  refine IH.out.mono ?_
  rintro e w1 ⟨⟨v, rfl⟩, hb⟩
  go_wp2_with fail
  go_ret
  exact ⟨rfl, Ext.then_ B1 hb⟩
end Go.Proofs.Ytogefmkplkddoaa
