/- Grey pictures: sums, on both sides. -/
import Derived.Test.YtajepoopicoodaaGIm
namespace Go.Proofs.Ytajepoopicoodaa
open Go.RowKit

def rsum (r : List Int) (k : Nat) : Int := (r.take k).sum
def gsum (rows : List (List Int)) (k : Nat) : Int := ((rows.take k).map List.sum).sum
theorem rsum_succ {r : List Int} {k : Nat} (h : k < r.length) : rsum r (k + 1) = rsum r k + r[k] := by
  unfold rsum
  rw [List.take_add_one, List.getElem?_eq_getElem h, List.sum_append]
  simp
theorem rsum_all (r : List Int) : rsum r r.length = r.sum := by simp [rsum]
theorem gsum_succ {rows : List (List Int)} {k : Nat} (h : k < rows.length) : gsum rows (k + 1) = gsum rows k + rows[k].sum := by
  unfold gsum
  rw [List.take_add_one, List.getElem?_eq_getElem h, List.map_append, List.sum_append]
  simp
theorem rsum_bd {r : List Int} (hv : ∀ x (h : x < r.length), 0 ≤ r[x] ∧ r[x] ≤ 1000) : ∀ k, k ≤ r.length → 0 ≤ rsum r k ∧ rsum r k ≤ 1000 * k := by
  intro k
  induction k with
  | zero => intro _; simp [rsum]
  | succ k ih =>
    intro h
    have := ih (by omega)
    have := hv k (by omega)
    rw [rsum_succ (by omega)]
    omega
theorem gsum_bd {rows : List (List Int)} (hr : ∀ i (h : i < rows.length), rows[i].length ≤ 16) (hv : ∀ y (hy : y < rows.length) x (h : x < rows[y].length), 0 ≤ rows[y][x] ∧ rows[y][x] ≤ 1000) : ∀ k, k ≤ rows.length → 0 ≤ gsum rows k ∧ gsum rows k ≤ 16000 * k := by
  intro k
  induction k with
  | zero => intro _; simp [gsum]
  | succ k ih =>
    intro h
    have := ih (by omega)
    have h2 := rsum_bd (hv k (by omega)) rows[k].length (Nat.le_refl _)
    have h3 := hr k (by omega)
    rw [rsum_all] at h2
    rw [gsum_succ (by omega)]
    omega

set_option maxRecDepth 100000 in
set_option maxHeartbeats 1000000 in
theorem greys_any (p : Nat) (A : Option Addr) (c : Nat) (rows : List (List Int)) (w : World) (h : GreyAt w p A c rows) (hn : rows.length ≤ 16) (hr : ∀ i (h : i < rows.length), rows[i].length ≤ 16) (hv : ∀ y (hy : y < rows.length) x (h : x < rows[y].length), 0 ≤ rows[y][x] ∧ rows[y][x] ≤ 1000) :
    Calls Try.prog 73 #[.pointer (some ⟨p, 0, none⟩)] w fun e w' => e = .returned (.int .i64 (gsum rows rows.length)) ∧ w = w' := by
  have c0 := h.cell
  have HD := Lib.hid h.rd
  have R := Lib.hid (And.intro hr hv)
  have GB := Lib.hid (gsum_bd hr hv)
  have GS := Lib.hid (fun k (h : k < rows.length) => gsum_succ h)
  have G0 : Hid (gsum rows 0 = 0) := by simp [Hid, gsum]
  clear h hr hv
  obtain ⟨n, hnL⟩ : ∃ n, rows.length = n := ⟨_, rfl⟩
  have HN := Lib.hid hnL
  rw [hnL] at c0 hn ⊢
  clear hnL
  go_enter Try.func73, Try.ntmps73
  go_wp2_with fail
  go_loop [3, 5, 7, 13] (fun s _ _ i => ∃ y : Nat, y ≤ n ∧ i = .int .i64 y ∧ s = .int .i64 (gsum rows y)) (fun _ _ _ i => n - (intOf i).toNat)
  case atStart => exact ⟨0, Nat.zero_le _, rfl, by rw [G0.out]⟩
  case round =>
    obtain ⟨y, hy, rfl, rfl⟩ := hrel
    by_cases hlt : y < n
    · have hys : y < rows.length := by rw [HN.out]; exact hlt
      obtain ⟨g, rfl, hg, hc⟩ := HD.out (by omega)
      obtain ⟨Ay, cy, ky, dy⟩ := hc y hys
      obtain ⟨hr, hv⟩ := R.out
      have ly := hr y hys
      have vy := Lib.hid (hv y hys)
      have gb := GB.out y (by omega)
      have GSy := Lib.hid (GS.out y hys)
      have RB := Lib.hid (rsum_bd vy.out)
      clear hc hr hv
      generalize rows[y] = r at *
      obtain ⟨m, hm⟩ : ∃ m, r.length = m := ⟨_, rfl⟩
      rw [hm] at ky ly
      have i2 : (0 : Int) ≤ (y : Int) := by omega
      have i3 : (y : Int) < (n : Int) := by omega
      have HM := Lib.hid hm
      have DY := Lib.hid dy
      have HS : Hid (gsum rows (y + 1) = gsum rows y + rsum r m) := by rw [GSy.out, ← HM.out, rsum_all]; rfl
      have r0 : Hid (rsum r 0 = 0) := by simp [Hid, rsum]
      clear hm dy GSy
      generalize gsum rows y = s0 at *
      go_wp2_with fail
      go_loop [3, 7, 19] (fun s _ i => ∃ x : Nat, x ≤ m ∧ i = .int .i64 x ∧ s = .int .i64 (s0 + rsum r x)) (fun _ _ i => m - (intOf i).toNat)
      case atStart => exact ⟨0, Nat.zero_le _, rfl, by rw [r0.out]; simp⟩
      case round =>
        obtain ⟨x, hx, rfl, rfl⟩ := hrel
        have rb := RB.out x (by have := HM.out; omega)
        by_cases hxl : x < m
        · have hxr : x < r.length := by rw [HM.out]; exact hxl
          obtain ⟨gr, rfl, hgr, hcr⟩ := DY.out (by simp [ints]; omega)
          have kx := hcr x (by simp [ints]; omega)
          have ex : (ints r)[x]'(by simp [ints]; omega) = .int .i64 r[x] := by simp [ints]
          rw [ex] at kx
          have vb := vy.out x hxr
          have RS := Lib.hid (rsum_succ hxr)
          have i4 : (0 : Int) ≤ (x : Int) := by omega
          have i5 : (x : Int) < (m : Int) := by omega
          clear ex hcr
          generalize r[x] = v at *
          go_wp2_with fail
          go_round
          case rel => exact ⟨x + 1, by omega, by go_num, by rw [RS.out]; go_num⟩
          case measure => simp [intOf]; omega
        · obtain rfl : x = m := by omega
          go_wp2_with fail
          go_round
          case rel => exact ⟨y + 1, by omega, by go_num, by rw [HS.out]⟩
          case measure => simp [intOf]; omega
    · obtain rfl : y = n := by omega
      go_wp2_with fail
      go_ret
      exact ⟨rfl, rfl⟩
end Go.Proofs.Ytajepoopicoodaa
