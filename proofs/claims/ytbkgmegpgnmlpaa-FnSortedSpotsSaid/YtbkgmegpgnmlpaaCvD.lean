/- The reference's curves. -/
import Derived.Test.YtbkgmegpgnmlpaaCvC
namespace Go.Proofs.Ytbkgmegpgnmlpaa
open Go.RowKit

set_option maxHeartbeats 400000 in
theorem ask_any (c o : Int) (w : World) :
    Calls Try.prog 57 #[.int .i64 c, .int .i64 o] w fun e w' => e = .returned (.bool (curveOkB c o)) ∧ w = w' := by
  cases h1 : inB c 0 3
  · go_enter Try.func57, Try.ntmps57
    go_wp2_with (go_at_call 58; refine (inS_any _ _ _ _).mono ?_; rintro e w' ⟨rfl, rfl⟩)
    go_ret
    exact ⟨by simp [curveOkB, h1], rfl⟩
  · go_enter Try.func57, Try.ntmps57
    go_wp2_with (go_at_call 58; refine (inS_any _ _ _ _).mono ?_; rintro e w' ⟨rfl, rfl⟩)
    go_ret
    exact ⟨by simp [curveOkB, h1], rfl⟩

set_option maxHeartbeats 400000 in
theorem sideS_any (k : Nat) (w : World) (hk : k ≤ 8) :
    Calls Try.prog 59 #[.int .i64 k] w fun e w' => e = .returned (.int .i64 (2 ^ k)) ∧ w = w' := by
  have hS : wrap64 (2 ^ k) = 2 ^ k := by
    have : k = 0 ∨ k = 1 ∨ k = 2 ∨ k = 3 ∨ k = 4 ∨ k = 5 ∨ k = 6 ∨ k = 7 ∨ k = 8 := by omega
    rcases this with rfl | rfl | rfl | rfl | rfl | rfl | rfl | rfl | rfl <;> decide +kernel
  go_enter Try.func59, Try.ntmps59
  go_wp2_with fail
  go_ret
  exact ⟨ret_int (by first | rfl | exact hS), rfl⟩
theorem sideO_any (o : Int) (w : World) (h0 : 0 ≤ o) (h4 : o ≤ 4) :
    Calls Try.prog 59 #[.int .i64 o] w fun e w' => e = .returned (.int .i64 (side o)) ∧ w = w' := by
  obtain ⟨k, rfl⟩ := Int.eq_ofNat_of_zero_le h0
  exact sideS_any k w (by omega)

set_option maxHeartbeats 400000 in
theorem turnsS_any (k : Nat) : ∀ (x y : Int) (w : World), k ≤ 4 → 0 ≤ x → x < 2 ^ k → 0 ≤ y → y < 2 ^ k →
    Calls Try.prog 91 #[.int .i64 k, .int .i64 x, .int .i64 y] w fun e w' => e = .returned (.int .i64 (turnsI k x y)) ∧ w = w' := by
  induction k with
  | zero =>
    intro x y w _ _ _ _ _
    go_enter Try.func91, Try.ntmps91
    go_wp2_with fail
    go_ret
    exact ⟨rfl, rfl⟩
  | succ k ih =>
    intro x y w hk hx0 hx hy0 hy
    have e : (2 : Int) ^ (k + 1) = 2 * 2 ^ k := by rw [Int.pow_succ]; omega
    rw [e] at hx hy
    obtain ⟨h1, h2, h5, h3, h4⟩ := two_pow_bd (k := k) (by omega)
    have B1 := turnsI_bd k y x (by omega) hy0
    have B2 := turnsI_bd k x (y - 2 ^ k) (by omega) hx0
    have B3 := turnsI_bd k (x - 2 ^ k) (y - 2 ^ k) (by omega)
    have B4 := turnsI_bd k (2 ^ k - 1 - y) (2 * 2 ^ k - 1 - x) (by omega)
    clear e
    have IH := Lib.hid ih
    clear ih
    by_cases c1 : x < 2 ^ k
    · by_cases c2 : y < 2 ^ k
      · have B := B1 c2 hx0 c1
        have F : Hid (turnsI (k + 1) x y = turnsI k y x) := by simp [Hid, turnsI, c1, c2]
        clear B1 B2 B3 B4
        obtain ⟨B0, B5⟩ := B
        go_enter Try.func91, Try.ntmps91
        go_wp2_with (first | (go_at_call 59; refine (sideS_any k _ (by omega)).mono ?_; rintro e w' ⟨rfl, rfl⟩) | (go_at_call 91; refine (IH.out _ _ _ (by omega) (by omega) (by omega) (by omega) (by omega)).mono ?_; rintro e w' ⟨rfl, rfl⟩))
        go_ret
        exact ⟨ret_int F.out.symm, rfl⟩
      · have B := B2 c1 (by omega) (by omega)
        have F : Hid (turnsI (k + 1) x y = 2 ^ k * 2 ^ k + turnsI k x (y - 2 ^ k)) := by simp [Hid, turnsI, c1, c2]
        clear B1 B2 B3 B4
        obtain ⟨B0, B5⟩ := B
        go_enter Try.func91, Try.ntmps91
        go_wp2_with (first | (go_at_call 59; refine (sideS_any k _ (by omega)).mono ?_; rintro e w' ⟨rfl, rfl⟩) | (go_at_call 91; refine (IH.out _ _ _ (by omega) (by omega) (by omega) (by omega) (by omega)).mono ?_; rintro e w' ⟨rfl, rfl⟩))
        go_ret
        exact ⟨ret_int F.out.symm, rfl⟩
    · by_cases c2 : 2 ^ k ≤ y
      · have B := B3 (by omega) (by omega) (by omega) (by omega)
        have F : Hid (turnsI (k + 1) x y = 2 * (2 ^ k * 2 ^ k) + turnsI k (x - 2 ^ k) (y - 2 ^ k)) := by simp [Hid, turnsI, c1, c2]
        clear B1 B2 B3 B4
        obtain ⟨B0, B5⟩ := B
        go_enter Try.func91, Try.ntmps91
        go_wp2_with (first | (go_at_call 59; refine (sideS_any k _ (by omega)).mono ?_; rintro e w' ⟨rfl, rfl⟩) | (go_at_call 91; refine (IH.out _ _ _ (by omega) (by omega) (by omega) (by omega) (by omega)).mono ?_; rintro e w' ⟨rfl, rfl⟩))
        go_ret
        exact ⟨ret_int F.out.symm, rfl⟩
      · have B := B4 (by omega) (by omega) (by omega) (by omega)
        have F : Hid (turnsI (k + 1) x y = 3 * (2 ^ k * 2 ^ k) + turnsI k (2 ^ k - 1 - y) (2 * 2 ^ k - 1 - x)) := by simp [Hid, turnsI, c1, c2]; rw [show (2 : Int) ^ k - 1 - (x - 2 ^ k) = 2 * 2 ^ k - 1 - x from by omega]
        clear B1 B2 B3 B4
        obtain ⟨B0, B5⟩ := B
        go_enter Try.func91, Try.ntmps91
        go_wp2_with (first | (go_at_call 59; refine (sideS_any k _ (by omega)).mono ?_; rintro e w' ⟨rfl, rfl⟩) | (go_at_call 91; refine (IH.out _ _ _ (by omega) (by omega) (by omega) (by omega) (by omega)).mono ?_; rintro e w' ⟨rfl, rfl⟩))
        go_ret
        exact ⟨ret_int F.out.symm, rfl⟩


theorem or_check : ∀ (k : Fin 4) (n : Fin 64) (a b : Fin 2), n.val < 4 ^ k.val → bits BinOp.or IntKind.i64 (n.val : Int) (bits BinOp.or IntKind.i64 ((a.val * 2 ^ (2 * k.val) : Nat) : Int) ((b.val * 2 ^ (2 * k.val + 1) : Nat) : Int)) = ((n.val + a.val * 2 ^ (2 * k.val) + b.val * 2 ^ (2 * k.val + 1) : Nat) : Int) := by decide +kernel

theorem bitsS_step (k : Nat) (x y : Int) (hk : k < 4) (hx0 : 0 ≤ x) (hx : x < 16) (hy0 : 0 ≤ y) (hy : y < 16) :
    bits BinOp.or IntKind.i64 (bitsI k x y) (bits BinOp.or IntKind.i64 (wrap64 (bits BinOp.and IntKind.i64 (x / 2 ^ k) 1 * 2 ^ (2 * k))) (wrap64 (bits BinOp.and IntKind.i64 (y / 2 ^ k) 1 * 2 ^ (2 * k + 1)))) = bitsI (k + 1) x y := by
  have hp : (1 : Int) ≤ 2 ^ k := by have := two_pow_bd (k := k) (by omega); omega
  have e1 : 0 ≤ x / 2 ^ k ∧ x / 2 ^ k < 16 := ⟨Int.ediv_nonneg hx0 (by omega), by
    have := Int.ediv_le_self (b := 2 ^ k) hx0; omega⟩
  have e2 : 0 ≤ y / 2 ^ k ∧ y / 2 ^ k < 16 := ⟨Int.ediv_nonneg hy0 (by omega), by
    have := Int.ediv_le_self (b := 2 ^ k) hy0; omega⟩
  rw [and_one _ e1.1 e1.2, and_one _ e2.1 e2.2]
  have B := bitsI_bd k x y (by omega)
  have a1 : x / 2 ^ k % 2 = 0 ∨ x / 2 ^ k % 2 = 1 := by omega
  have a2 : y / 2 ^ k % 2 = 0 ∨ y / 2 ^ k % 2 = 1 := by omega
  show _ = bitsI k x y + x / 2 ^ k % 2 * 2 ^ (2 * k) + y / 2 ^ k % 2 * 2 ^ (2 * k + 1)
  have h64 : (4 : Int) ^ k ≤ 64 := by
    have hk' : k = 0 ∨ k = 1 ∨ k = 2 ∨ k = 3 := by omega
    rcases hk' with rfl | rfl | rfl | rfl <;> decide
  obtain ⟨n, hn⟩ := Int.eq_ofNat_of_zero_le B.1
  obtain ⟨a, ha⟩ := Int.eq_ofNat_of_zero_le (show 0 ≤ x / 2 ^ k % 2 by omega)
  obtain ⟨b, hb⟩ := Int.eq_ofNat_of_zero_le (show 0 ≤ y / 2 ^ k % 2 by omega)
  rw [hn, ha, hb]
  have hn4 : n < 4 ^ k := by
    have h := B.2; rw [hn] at h; exact_mod_cast h
  have C := or_check ⟨k, hk⟩ ⟨n, by omega⟩ ⟨a, by omega⟩ ⟨b, by omega⟩ hn4
  have w1 : wrap64 ((a : Int) * 2 ^ (2 * k)) = ((a * 2 ^ (2 * k) : Nat) : Int) := by
    have hk' : k = 0 ∨ k = 1 ∨ k = 2 ∨ k = 3 := by omega
    rcases hk' with rfl | rfl | rfl | rfl <;> simp [wrap64] <;> omega
  have w2 : wrap64 ((b : Int) * 2 ^ (2 * k + 1)) = ((b * 2 ^ (2 * k + 1) : Nat) : Int) := by
    have hk' : k = 0 ∨ k = 1 ∨ k = 2 ∨ k = 3 := by omega
    rcases hk' with rfl | rfl | rfl | rfl <;> simp [wrap64] <;> omega
  rw [w1, w2, C]
  simp

set_option maxHeartbeats 400000 in
theorem indexS_any (c o x y : Int) (w : World) (hc0 : 0 ≤ c) (hc3 : c ≤ 3) (h0 : 0 ≤ o) (h4 : o ≤ 4) (hx0 : 0 ≤ x) (hx : x < side o) (hy0 : 0 ≤ y) (hy : y < side o) :
    Calls Try.prog 79 #[.int .i64 c, .int .i64 o, .int .i64 x, .int .i64 y] w fun e w' => e = .returned (.int .i64 (idxI c o x y)) ∧ w = w' := by
  have hS1 := side_pos h0 h4
  have hS2 := side_le h0 h4
  have hys : 0 ≤ y * side o ∧ y * side o ≤ 240 := by
    refine ⟨Int.mul_nonneg hy0 (by omega), ?_⟩
    have h1 : y * side o ≤ (side o - 1) * side o := Int.mul_le_mul_of_nonneg_right (by omega) (by omega)
    have h2 : (side o - 1) * side o ≤ 15 * side o := Int.mul_le_mul_of_nonneg_right (by omega) (by omega)
    omega
  obtain ⟨hys1, hys2⟩ := hys
  have : c = 0 ∨ c = 1 ∨ c = 2 ∨ c = 3 := by omega
  rcases this with rfl | rfl | rfl | rfl
  · go_enter Try.func79, Try.ntmps79
    go_wp2_with (go_at_call 59; refine (sideO_any _ _ h0 h4).mono ?_; rintro e w' ⟨rfl, rfl⟩)
    go_ret
    exact ⟨ret_int (by simp [idxI]), rfl⟩
  · by_cases hp : y % 2 = 1
    · have F : Hid (idxI 1 o x y = y * side o + side o - 1 - x) := by simp [Hid, idxI, hp]
      go_enter Try.func79, Try.ntmps79
      go_wp2_with (go_at_call 59; refine (sideO_any _ _ h0 h4).mono ?_; rintro e w' ⟨rfl, rfl⟩)
      go_ret
      exact ⟨ret_int F.out.symm, rfl⟩
    · have F : Hid (idxI 1 o x y = y * side o + x) := by simp [Hid, idxI, hp]
      have hp' : (y % 2 == 1) = false := by simpa using hp
      clear hp
      go_enter Try.func79, Try.ntmps79
      go_wp2_with (go_at_call 59; refine (sideO_any _ _ h0 h4).mono ?_; rintro e w' ⟨rfl, rfl⟩)
      go_ret
      exact ⟨ret_int F.out.symm, rfl⟩
  · go_enter Try.func79, Try.ntmps79
    go_wp2_with (go_at_call 59; refine (sideO_any _ _ h0 h4).mono ?_; rintro e w' ⟨rfl, rfl⟩)
    go_loop [10, 11] (fun u i => ∃ k : Nat, (k : Int) ≤ o ∧ i = .int .i64 k ∧ u = .int .i64 (bitsI k x y)) (fun _ i => (o - intOf i).toNat)
    case atStart => exact ⟨0, by omega, rfl, rfl⟩
    case round =>
      obtain ⟨k, hk, rfl, rfl⟩ := hrel
      by_cases hlt : (k : Int) < o
      · have st := Lib.hid (bitsS_step k x y (by omega) hx0 (by omega) hy0 (by omega))
        go_wp2_with (go_at_call 59; refine (sideO_any _ _ h0 h4).mono ?_; rintro e w' ⟨rfl, rfl⟩)
        go_round
        case rel => exact ⟨k + 1, by omega, by go_num, by rw [st.out]⟩
        case measure => simp [intOf]; omega
      · obtain rfl : (k : Int) = o := by omega
        go_wp2_with (go_at_call 59; refine (sideO_any _ _ h0 h4).mono ?_; rintro e w' ⟨rfl, rfl⟩)
        go_ret
        exact ⟨ret_int (by simp [idxI]), rfl⟩
  · obtain ⟨k, rfl⟩ := Int.eq_ofNat_of_zero_le h0
    have hs : side (k : Int) = 2 ^ k := rfl
    have T := Lib.hid (turnsS_any k x y w (by omega) hx0 (by omega) hy0 (by omega))
    clear hs
    go_enter Try.func79, Try.ntmps79
    go_wp2_with (first | (go_at_call 59; refine (sideO_any _ _ h0 h4).mono ?_; rintro e w' ⟨rfl, rfl⟩) | (go_at_call 91; refine T.out.mono ?_; rintro e w' ⟨rfl, rfl⟩))
    go_ret
    exact ⟨ret_int (by simp [idxI]), rfl⟩

end Go.Proofs.Ytbkgmegpgnmlpaa
