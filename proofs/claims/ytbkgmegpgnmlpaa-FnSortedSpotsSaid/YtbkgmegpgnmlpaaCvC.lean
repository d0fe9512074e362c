/- All spots in the order of a curve. -/
import Derived.Test.YtbkgmegpgnmlpaaMem
import Derived.Test.YtbkgmegpgnmlpaaCvB
import Derived.Deep.RegionHeld3
namespace Go.Proofs.Ytbkgmegpgnmlpaa
open Go.RowKit

def visRow (c o : Int) (y : Nat) (L : List (Int × Int)) : Nat → List (Int × Int)
  | 0 => L
  | m + 1 => (visRow c o y L m).set (idxI c o m y).toNat ((m : Int), (y : Int))
def visTo (c o : Int) (s : Nat) : Nat → List (Int × Int)
  | 0 => List.replicate (s * s) (0, 0)
  | k + 1 => visRow c o k (visTo c o s k) s
theorem visRow_length (c o : Int) (y : Nat) (L : List (Int × Int)) : ∀ m, (visRow c o y L m).length = L.length := by
  intro m
  induction m with
  | zero => rfl
  | succ m ih => simp [visRow, ih]
theorem visTo_length (c o : Int) (s : Nat) : ∀ k, (visTo c o s k).length = s * s := by
  intro k
  induction k with
  | zero => simp [visTo]
  | succ k ih => simp [visTo, visRow_length, ih]

theorem turnsI_lt (k : Nat) (hk : k ≤ 4) (x y : Int) (hx0 : 0 ≤ x) (hx : x < side k) (hy0 : 0 ≤ y) (hy : y < side k) : 0 ≤ turnsI k x y ∧ turnsI k x y < side k * side k :=
  turnsI_bd k x y hk hx0 hx hy0 hy
theorem idxI_bd (c o x y : Int) (h0 : 0 ≤ o) (h4 : o ≤ 4) (hx0 : 0 ≤ x) (hx : x < side o) (hy0 : 0 ≤ y) (hy : y < side o) :
    0 ≤ idxI c o x y ∧ idxI c o x y < side o * side o := by
  have hs := side_pos h0 h4
  have h1 : y * side o ≤ (side o - 1) * side o := Int.mul_le_mul_of_nonneg_right (by omega) (by omega)
  have h2 : (side o - 1) * side o = side o * side o - side o := by rw [Int.sub_mul, Int.one_mul]
  have h3 : 0 ≤ y * side o := Int.mul_nonneg hy0 (by omega)
  rw [h2] at h1
  unfold idxI
  split
  · omega
  · split
    · split <;> omega
    · split
      · have := bitsI_bd o.toNat x y (by omega)
        have e : (4 : Int) ^ o.toNat = side o * side o := by
          rcases side_cases h0 h4 with rfl | rfl | rfl | rfl | rfl <;> decide +kernel
        omega
      · obtain ⟨k, rfl⟩ := Int.eq_ofNat_of_zero_le h0
        exact turnsI_lt k (by omega) x y hx0 hx hy0 hy

theorem spot_info : (Try.prog.info? 29).map (fun i => (i.zero, i.size, i.bytes)) = some (some (.agg #[.int .i64 0, .int .i64 0]), 2, 16) := by kernel_rfl

set_option maxHeartbeats 1000000 in
theorem visits_any (c o : Int) (w : World) (hc0 : 0 ≤ c) (hc3 : c ≤ 3) (h0 : 0 ≤ o) (h4 : o ≤ 4) (s : Nat) (hs : side o = s) :
    Calls Try.prog 50 #[.int .i64 c, .int .i64 o] w fun e w' => e = .returned (.slice (some ⟨w.heap.size, 0, none⟩) (s * s) (s * s)) ∧ Blk w' w.heap.size 29 (spC (visTo c o s s)) ∧ Below w.heap.size w w' := by
  have hS : wrap64 (2 ^ o.toNat) = (s : Int) := by rw [side_wrap h0 h4, hs]
  have hS1 := side_pos h0 h4
  have hS2 := side_le h0 h4
  rw [hs] at hS1 hS2
  have HS := Lib.hid hs
  clear hs
  obtain ⟨i0, hi, hz0, hz1, hz2⟩ := info_parts spot_info
  have hss : (s : Int) * s ≤ 256 := by
    have h1 : (s : Int) * s ≤ 16 * s := Int.mul_le_mul_of_nonneg_right (by omega) (by omega)
    omega
  have hss0 : (0 : Int) ≤ (s : Int) * s := Int.mul_nonneg (by omega) (by omega)
  have hmk : ∀ W : World, (Instr.makeSlice 50 (.int .i64 ((s : Int) * s)) (.int .i64 ((s : Int) * s))).run Try.prog W = .ok (.slice (some ⟨W.heap.size, 0, none⟩) (s * s) (s * s)) (W.alloc (.cells (spC (visTo c o s 0)) 29)) := by
    intro W
    have h := run_make (P := Try.prog) W 50 29 i0 _ Try.underlying50 hi hz0 .i64 .i64 ((s : Int) * s) ((s : Int) * s) hss0 (Int.le_refl _) (by rw [hz2]; omega) (by omega)
    rw [h, hz1]
    have e : ((s : Int) * s).toNat = s * s := by rw [← Int.natCast_mul, Int.toNat_natCast]
    rw [e]
    show Result.ok _ (W.alloc (.cells (madeCells #[.int .i64 0, .int .i64 0] (s * s * 2)) _)) = _
    rw [spC_made]; rfl
  clear hi hz0 hz1 hz2
  go_enter Try.func50, Try.ntmps50
  go_wp2_with fail
  simp only [hS]
  clear hS
  have hB0 := Blk.made w 29 (spC (visTo c o s 0))
  have hb0 := (Below.refl w.heap.size w).alloc (Nat.le_refl _) (.cells (spC (visTo c o s 0)) 29)
  go_loopw [17] (fun i wr => ∃ k : Nat, k ≤ s ∧ i = .int .i64 k ∧ Blk wr w.heap.size 29 (spC (visTo c o s k)) ∧ Below w.heap.size w wr) (fun i _ => s - (intOf i).toNat)
  case atStart => exact ⟨0, Nat.zero_le _, rfl, hB0, hb0⟩
  case round =>
    obtain ⟨k, hk, rfl, hB, hb⟩ := hrel
    obtain ⟨wo, rfl⟩ : ∃ wo : World, wo = wr := ⟨_, rfl⟩
    by_cases hlt : k < s
    · go_wp2_with fail
      go_loopw [21] (fun i wr => ∃ m : Nat, m ≤ s ∧ i = .int .i64 m ∧ Blk wr w.heap.size 29 (spC (visRow c o k (visTo c o s k) m)) ∧ Below w.heap.size w wr) (fun i _ => s - (intOf i).toNat)
      case atStart => exact ⟨0, Nat.zero_le _, rfl, hB, hb⟩
      case round =>
        obtain ⟨m, hm, rfl, hBm, hbm⟩ := hrel
        by_cases hml : m < s
        · have hI := idxI_bd c o m k h0 h4 (by omega) (by rw [HS.out]; omega) (by omega) (by rw [HS.out]; omega)
          rw [HS.out] at hI
          obtain ⟨q, hq⟩ := Int.eq_ofNat_of_zero_le hI.1
          have hq0 : (0 : Int) ≤ (q : Int) := by omega
          have hq2 : (q : Int) < (s : Int) * s := by have := hI.2; rw [hq] at this; exact this
          have hqn : q < s * s := by rw [← Int.natCast_mul] at hq2; omega
          have C := fun W : World => indexOf_any c o m k W hc0 hc3 h0 h4 (by omega) (by rw [HS.out]; omega) (by omega) (by rw [HS.out]; omega)
          rw [hq] at C
          have CH := Lib.hid C
          have HQ := Lib.hid hq
          clear C hI hq
          obtain ⟨⟨u1, hu1⟩, ⟨u2, hu2⟩⟩ := spC_ex (visRow c o k (visTo c o s k) m) (s * s) q (by rw [visRow_length, visTo_length]) hqn
          have hc1 := (hBm.cell (q * 2)).trans hu1
          have hc2 := (hBm.cell (q * 2 + 1)).trans hu2
          clear hu1 hu2
          have hf1 := hBm.free (q * 2)
          have hf2 := hBm.free (q * 2 + 1)
          have hlt' := hBm.lt
          go_wp2_with fail
          go_region_held3 (fun w' => w'.cell? ⟨wr.heap.size, 0, none⟩ = some (.int .i64 m) ∧ w'.cell? ⟨wr.heap.size, 1, none⟩ = some (.int .i64 k)) (simp [go_sem, World.cell?_alloc_past])
            (first
              | (go_at_call 53; refine (CH.out _).mono ?_; rintro e w' ⟨rfl, rfl⟩))
          clear hc1 hc2 hf1 hf2
          go_wp2_with fail
          go_roundw
          case rel =>
            refine ⟨m + 1, by omega, by go_num, ?_, ?_⟩
            · rw [visRow, HQ.out, Int.toNat_natCast, ← spC_set]
              exact (((hBm.store _ _).store _ _).more _).more _
            · exact ((((hbm.setCell (p := ⟨w.heap.size, _, none⟩) (Nat.le_refl _) _).setCell (p := ⟨w.heap.size, _, none⟩) (Nat.le_refl _) _).alloc (by simp; omega) _).alloc (by simp; omega) _).drew
          case measure => simp [intOf]; omega
        · obtain rfl : m = s := by omega
          go_wp2_with fail
          go_roundw
          case rel => exact ⟨k + 1, by omega, by go_num, hBm, hbm⟩
          case measure => simp [intOf]; omega
    · obtain rfl : k = s := by omega
      go_wp2_with fail
      go_ret
      exact ⟨rfl, hB, hb⟩
end Go.Proofs.Ytbkgmegpgnmlpaa
