/- Distances by the city, the program's and the reference's. -/
import Derived.Test.YtbkgmegpgnmlpaaMem
namespace Go.Proofs.Ytbkgmegpgnmlpaa
open Go.RowKit

def absI (n : Int) : Int := if n < 0 then -n else n
def far0 (ax ay bx by_ : Int) : Int := absI (ax - bx) + absI (ay - by_)
theorem absI_bd {n : Int} (h1 : -1000 ≤ n) (h2 : n ≤ 1000) : 0 ≤ absI n ∧ absI n ≤ 1000 := by unfold absI; split <;> omega

set_option maxHeartbeats 400000 in
theorem size_any (n : Int) (w : World) (h1 : -1000 ≤ n) (h2 : n ≤ 1000) :
    Calls Try.prog 78 #[.int .i64 n] w fun e w' => e = .returned (.int .i64 (absI n)) ∧ w = w' := by
  have F : Hid (absI n = if n < 0 then -n else n) := rfl
  by_cases h : n < 0
  · rw [if_pos h] at F
    go_enter Try.func78, Try.ntmps78
    go_wp2_with fail
    go_ret
    exact ⟨ret_int F.out.symm, rfl⟩
  · rw [if_neg h] at F
    go_enter Try.func78, Try.ntmps78
    go_wp2_with fail
    go_ret
    exact ⟨ret_int F.out.symm, rfl⟩

/-- A spot in small numbers. -/
def Small (x : Int) : Prop := -100 ≤ x ∧ x ≤ 100

set_option maxHeartbeats 400000 in
theorem far_city (ax ay bx by_ : Int) (w : World) (h1 : Small ax) (h2 : Small ay) (h3 : Small bx) (h4 : Small by_) :
    Calls Try.prog 56 #[.int .i64 0, .agg #[.int .i64 ax, .int .i64 ay], .agg #[.int .i64 bx, .int .i64 by_]] w fun e w' => e = .returned (.int .i64 (far0 ax ay bx by_)) ∧ Below w.heap.size w w' := by
  obtain ⟨a1, a2⟩ := h1; obtain ⟨b1, b2⟩ := h2; obtain ⟨c1, c2⟩ := h3; obtain ⟨d1, d2⟩ := h4
  have k1 := absI_bd (n := ax - bx) (by omega) (by omega)
  have k2 := absI_bd (n := ay - by_) (by omega) (by omega)
  obtain ⟨k1, k1'⟩ := k1
  obtain ⟨k2, k2'⟩ := k2
  have e1 : IntKind.i64.wrap (ax - bx) = ax - bx := IntWalk.i64_in _ (by omega)
  have e2 : IntKind.i64.wrap (ay - by_) = ay - by_ := IntWalk.i64_in _ (by omega)
  go_enter Try.func56, Try.ntmps56
  go_wp2_with fail
  go_quiet ((go_at_call 78; exact Calls.quiet_of_same ((size_any _ _ (by omega) (by omega)).mono fun _ _ ⟨h, k⟩ => ⟨h, k.symm⟩)))
  clear e1 e2
  go_wp2_with fail
  go_ret
  exact ⟨rfl, Ext.drawN (Ext.more (Ext.more (Ext.refl _) _) _) _⟩

set_option maxHeartbeats 400000 in
theorem maxS_any (a b : Int) (w : World) :
    Calls Try.prog 61 #[.int .i64 a, .int .i64 b] w fun e w' => e = .returned (.int .i64 (max a b)) ∧ w = w' := by
  by_cases h : b < a
  · have F : Hid (max a b = a) := Int.max_eq_left (by omega)
    go_enter Try.func61, Try.ntmps61
    go_wp2_with fail
    go_ret
    exact ⟨ret_int F.out.symm, rfl⟩
  · have F : Hid (max a b = b) := Int.max_eq_right (by omega)
    go_enter Try.func61, Try.ntmps61
    go_wp2_with fail
    go_ret
    exact ⟨ret_int F.out.symm, rfl⟩

theorem max_absI (a b : Int) : max (a - b) (b - a) = absI (a - b) := by unfold absI; split <;> omega

set_option maxHeartbeats 400000 in
theorem farS_city (ax ay bx by_ : Int) (w : World) (h1 : Small ax) (h2 : Small ay) (h3 : Small bx) (h4 : Small by_) :
    Calls Try.prog 80 #[.int .i64 0, .int .i64 ax, .int .i64 ay, .int .i64 bx, .int .i64 by_] w fun e w' => e = .returned (.int .i64 (far0 ax ay bx by_)) ∧ w = w' := by
  obtain ⟨a1, a2⟩ := h1; obtain ⟨b1, b2⟩ := h2; obtain ⟨c1, c2⟩ := h3; obtain ⟨d1, d2⟩ := h4
  have k1 := absI_bd (n := ax - bx) (by omega) (by omega)
  have k2 := absI_bd (n := ay - by_) (by omega) (by omega)
  obtain ⟨k1, k1'⟩ := k1
  obtain ⟨k2, k2'⟩ := k2
  have M1 := Lib.hid (fun W => maxS_any (ax - bx) (bx - ax) W)
  have M2 := Lib.hid (fun W => maxS_any (ay - by_) (by_ - ay) W)
  rw [max_absI] at M1 M2
  go_enter Try.func80, Try.ntmps80
  go_wp2_with fail
  refine (M1.out _).mono ?_
  rintro e w' ⟨rfl, rfl⟩
  go_wp2_with fail
  refine (M2.out _).mono ?_
  rintro e w' ⟨rfl, rfl⟩
  go_wp2_with fail
  go_ret
  exact ⟨rfl, rfl⟩

set_option maxHeartbeats 400000 in
theorem jumpS_any (ax ay bx by_ : Int) (w : World) (h1 : Small ax) (h2 : Small ay) (h3 : Small bx) (h4 : Small by_) :
    Calls Try.prog 62 #[.agg #[.int .i64 ax, .int .i64 ay], .agg #[.int .i64 bx, .int .i64 by_]] w fun e w' => e = .returned (.int .i64 (far0 ax ay bx by_)) ∧ Below w.heap.size w w' := by
  go_enter Try.func62, Try.ntmps62
  go_wp2_with (go_at_call 80; refine (farS_city _ _ _ _ _ h1 h2 h3 h4).mono ?_; rintro e w' ⟨rfl, rfl⟩)
  go_ret
  exact ⟨rfl, Ext.more (Ext.more (Ext.refl _) _) _⟩
end Go.Proofs.Ytbkgmegpgnmlpaa
