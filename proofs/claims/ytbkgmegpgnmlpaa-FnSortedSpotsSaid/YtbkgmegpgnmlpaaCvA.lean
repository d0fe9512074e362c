/- Curves: the smallest functions. -/
import Derived.Test.YtbkgmegpgnmlpaaBase
namespace Go.Proofs.Ytbkgmegpgnmlpaa
open Go.RowKit

def curveOkB (c o : Int) : Bool := inB c 0 3 && inB o 0 4
set_option maxHeartbeats 400000 in
theorem curveOk_any (c o : Int) (w : World) :
    Calls Try.prog 47 #[.int .i64 c, .int .i64 o] w fun e w' => e = .returned (.bool (curveOkB c o)) ∧ w = w' := by
  cases h1 : inB c 0 3
  · go_enter Try.func47, Try.ntmps47
    go_wp2_with (go_at_call 51; refine (in_any _ _ _ _).mono ?_; rintro e w' ⟨rfl, rfl⟩)
    go_ret
    exact ⟨by simp [curveOkB, h1], rfl⟩
  · go_enter Try.func47, Try.ntmps47
    go_wp2_with (go_at_call 51; refine (in_any _ _ _ _).mono ?_; rintro e w' ⟨rfl, rfl⟩)
    go_ret
    exact ⟨by simp [curveOkB, h1], rfl⟩

/-- The side of an order. -/
def side (o : Int) : Int := 2 ^ o.toNat
theorem side_cases {o : Int} (h0 : 0 ≤ o) (h4 : o ≤ 4) : (o = 0 ∨ o = 1 ∨ o = 2 ∨ o = 3 ∨ o = 4) := by omega
theorem side_pos {o : Int} (h0 : 0 ≤ o) (h4 : o ≤ 4) : 1 ≤ side o := by
  rcases side_cases h0 h4 with rfl | rfl | rfl | rfl | rfl <;> decide
theorem side_le {o : Int} (h0 : 0 ≤ o) (h4 : o ≤ 4) : side o ≤ 16 := by
  rcases side_cases h0 h4 with rfl | rfl | rfl | rfl | rfl <;> decide
theorem side_wrap {o : Int} (h0 : 0 ≤ o) (h4 : o ≤ 4) : wrap64 (2 ^ o.toNat) = side o := by
  rcases side_cases h0 h4 with rfl | rfl | rfl | rfl | rfl <;> decide +kernel

set_option maxHeartbeats 400000 in
theorem onCurve_any (o x y : Int) (w : World) (h0 : 0 ≤ o) (h4 : o ≤ 4) :
    Calls Try.prog 52 #[.int .i64 o, .agg #[.int .i64 x, .int .i64 y]] w fun e w' => e = .returned (.bool (inB x 0 (side o - 1) && inB y 0 (side o - 1))) ∧ w.alloc (.cells #[.int .i64 x, .int .i64 y] 29) = w' := by
  have hS := side_wrap h0 h4
  have hS1 := side_pos h0 h4
  have hS2 := side_le h0 h4
  cases h1 : inB x 0 (side o - 1)
  · go_enter Try.func52, Try.ntmps52
    go_wp2_with (go_at_call 51; refine (in_any _ _ _ _).mono ?_; rintro e w' ⟨rfl, rfl⟩)
    go_ret
    exact ⟨by simp, rfl⟩
  · go_enter Try.func52, Try.ntmps52
    go_wp2_with (go_at_call 51; refine (in_any _ _ _ _).mono ?_; rintro e w' ⟨rfl, rfl⟩)
    go_ret
    exact ⟨by simp, rfl⟩

/-- The index of a spot on the curve by turns. -/
def turnsI : Nat → Int → Int → Int
  | 0, _, _ => 0
  | k + 1, x, y =>
    if x < 2 ^ k then
      if y < 2 ^ k then turnsI k y x else 2 ^ k * 2 ^ k + turnsI k x (y - 2 ^ k)
    else if 2 ^ k ≤ y then 2 * (2 ^ k * 2 ^ k) + turnsI k (x - 2 ^ k) (y - 2 ^ k)
    else 3 * (2 ^ k * 2 ^ k) + turnsI k (2 ^ k - 1 - y) (2 ^ k - 1 - (x - 2 ^ k))

theorem two_pow_bd {k : Nat} (h : k ≤ 4) : (1 : Int) ≤ 2 ^ k ∧ (2 : Int) ^ k ≤ 16 ∧ wrap64 (2 ^ k) = 2 ^ k ∧ (2 : Int) ^ k * 2 ^ k ≤ 256 ∧ (1 : Int) ≤ 2 ^ k * 2 ^ k := by
  have : k = 0 ∨ k = 1 ∨ k = 2 ∨ k = 3 ∨ k = 4 := by omega
  rcases this with rfl | rfl | rfl | rfl | rfl <;> decide +kernel
theorem turnsI_bd : ∀ (k : Nat) (x y : Int), k ≤ 4 → 0 ≤ x → x < 2 ^ k → 0 ≤ y → y < 2 ^ k → 0 ≤ turnsI k x y ∧ turnsI k x y < 2 ^ k * 2 ^ k := by
  intro k
  induction k with
  | zero => intro x y _ _ _ _ _; exact ⟨by simp [turnsI], by simp [turnsI]⟩
  | succ k ih =>
    intro x y hk hx0 hx hy0 hy
    have e : (2 : Int) ^ (k + 1) = 2 * 2 ^ k := by rw [Int.pow_succ]; omega
    rw [e] at hx hy ⊢
    have e2 : (2 * 2 ^ k * (2 * 2 ^ k) : Int) = 4 * (2 ^ k * 2 ^ k) := by
      rw [Int.mul_assoc, Int.mul_left_comm (2 ^ k) 2 (2 ^ k), ← Int.mul_assoc]; omega
    rw [e2]
    obtain ⟨h1, h2, _, h3, h4⟩ := two_pow_bd (k := k) (by omega)
    unfold turnsI
    generalize hA : (2 : Int) ^ k * 2 ^ k = A at *
    generalize hH : (2 : Int) ^ k = H at *
    split
    · split
      · have := ih y x (by omega) hy0 (by omega) hx0 (by omega); omega
      · have := ih x (y - H) (by omega) hx0 (by omega) (by omega) (by omega); omega
    · split
      · have := ih (x - H) (y - H) (by omega) (by omega) (by omega) (by omega) (by omega); omega
      · have := ih (H - 1 - y) (H - 1 - (x - H)) (by omega) (by omega) (by omega) (by omega) (by omega); omega

set_option maxHeartbeats 400000 in
theorem turns_any (k : Nat) : ∀ (x y : Int) (w : World), k ≤ 4 → 0 ≤ x → x < 2 ^ k → 0 ≤ y → y < 2 ^ k →
    Calls Try.prog 77 #[.int .i64 k, .int .i64 x, .int .i64 y] w fun e w' => e = .returned (.int .i64 (turnsI k x y)) ∧ w = w' := by
  induction k with
  | zero =>
    intro x y w _ _ _ _ _
    go_enter Try.func77, Try.ntmps77
    go_wp2_with fail
    go_ret
    exact ⟨rfl, rfl⟩
  | succ k ih =>
    intro x y w hk hx0 hx hy0 hy
    have e : (2 : Int) ^ (k + 1) = 2 * 2 ^ k := by rw [Int.pow_succ]; omega
    rw [e] at hx hy
    obtain ⟨h1, h2, h5, h3, h4⟩ := two_pow_bd (k := k) (by omega)
    have B1 := turnsI_bd k y x (by omega) hy0
    have B2 := turnsI_bd k x (y - 2 ^ k) (by omega) hx0
    have B3 := turnsI_bd k (x - 2 ^ k) (y - 2 ^ k) (by omega)
    have B4 := turnsI_bd k (2 ^ k - 1 - y) (2 ^ k - 1 - (x - 2 ^ k)) (by omega)
    clear e
    have IH := Lib.hid ih
    clear ih
    by_cases c1 : x < 2 ^ k
    · by_cases c2 : y < 2 ^ k
      · have B := B1 c2 hx0 c1
        have F : Hid (turnsI (k + 1) x y = turnsI k y x) := by simp [Hid, turnsI, c1, c2]
        clear B1 B2 B3 B4
        obtain ⟨B0, B5⟩ := B
        go_enter Try.func77, Try.ntmps77
        go_wp2_with (go_at_call 77; refine (IH.out _ _ _ (by omega) (by omega) (by omega) (by omega) (by omega)).mono ?_; rintro e w' ⟨rfl, rfl⟩)
        go_ret
        exact ⟨ret_int F.out.symm, rfl⟩
      · have B := B2 c1 (by omega) (by omega)
        have F : Hid (turnsI (k + 1) x y = 2 ^ k * 2 ^ k + turnsI k x (y - 2 ^ k)) := by simp [Hid, turnsI, c1, c2]
        clear B1 B2 B3 B4
        obtain ⟨B0, B5⟩ := B
        go_enter Try.func77, Try.ntmps77
        go_wp2_with (go_at_call 77; refine (IH.out _ _ _ (by omega) (by omega) (by omega) (by omega) (by omega)).mono ?_; rintro e w' ⟨rfl, rfl⟩)
        go_ret
        exact ⟨ret_int F.out.symm, rfl⟩
    · by_cases c2 : 2 ^ k ≤ y
      · have B := B3 (by omega) (by omega) (by omega) (by omega)
        have F : Hid (turnsI (k + 1) x y = 2 * (2 ^ k * 2 ^ k) + turnsI k (x - 2 ^ k) (y - 2 ^ k)) := by simp [Hid, turnsI, c1, c2]
        clear B1 B2 B3 B4
        obtain ⟨B0, B5⟩ := B
        go_enter Try.func77, Try.ntmps77
        go_wp2_with (go_at_call 77; refine (IH.out _ _ _ (by omega) (by omega) (by omega) (by omega) (by omega)).mono ?_; rintro e w' ⟨rfl, rfl⟩)
        go_ret
        exact ⟨ret_int F.out.symm, rfl⟩
      · have B := B4 (by omega) (by omega) (by omega) (by omega)
        have F : Hid (turnsI (k + 1) x y = 3 * (2 ^ k * 2 ^ k) + turnsI k (2 ^ k - 1 - y) (2 ^ k - 1 - (x - 2 ^ k))) := by simp [Hid, turnsI, c1, c2]
        clear B1 B2 B3 B4
        obtain ⟨B0, B5⟩ := B
        go_enter Try.func77, Try.ntmps77
        go_wp2_with (go_at_call 77; refine (IH.out _ _ _ (by omega) (by omega) (by omega) (by omega) (by omega)).mono ?_; rintro e w' ⟨rfl, rfl⟩)
        go_ret
        exact ⟨ret_int F.out.symm, rfl⟩

end Go.Proofs.Ytbkgmegpgnmlpaa
