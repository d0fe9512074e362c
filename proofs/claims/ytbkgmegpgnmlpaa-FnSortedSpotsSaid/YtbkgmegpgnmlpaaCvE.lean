/- SpotAt, the program's and the reference's. -/
import Derived.Test.YtbkgmegpgnmlpaaCvD
namespace Go.Proofs.Ytbkgmegpgnmlpaa
open Go.RowKit

set_option maxHeartbeats 1000000 in
theorem spotsS_any (c o : Int) (w : World) (hc0 : 0 ≤ c) (hc3 : c ≤ 3) (h0 : 0 ≤ o) (h4 : o ≤ 4) (s : Nat) (hs : side o = s) :
    Calls Try.prog 60 #[.int .i64 c, .int .i64 o] w fun e w' => e = .returned (.slice (some ⟨w.heap.size, 0, none⟩) (s * s) (s * s)) ∧ Blk w' w.heap.size 29 (spC (visTo c o s s)) ∧ Below w.heap.size w w' := by
  have S0 := fun W => sideO_any o W h0 h4
  rw [hs] at S0
  have SH := Lib.hid S0
  clear S0
  have hS1 := side_pos h0 h4
  have hS2 := side_le h0 h4
  rw [hs] at hS1 hS2
  have HS := Lib.hid hs
  clear hs
  obtain ⟨i0, hi, hz0, hz1, hz2⟩ := info_parts spot_info
  have hss : (s : Int) * s ≤ 256 := by
    have h1 : (s : Int) * s ≤ 16 * s := Int.mul_le_mul_of_nonneg_right (by omega) (by omega)
    omega
  have hss0 : (0 : Int) ≤ (s : Int) * s := Int.mul_nonneg (by omega) (by omega)
  have hmk : ∀ W : World, (Instr.makeSlice 50 (.int .i64 ((s : Int) * s)) (.int .i64 ((s : Int) * s))).run Try.prog W = .ok (.slice (some ⟨W.heap.size, 0, none⟩) (s * s) (s * s)) (W.alloc (.cells (spC (visTo c o s 0)) 29)) := by
    intro W
    have h := run_make (P := Try.prog) W 50 29 i0 _ Try.underlying50 hi hz0 .i64 .i64 ((s : Int) * s) ((s : Int) * s) hss0 (Int.le_refl _) (by rw [hz2]; omega) (by omega)
    rw [h, hz1]
    have e : ((s : Int) * s).toNat = s * s := by rw [← Int.natCast_mul, Int.toNat_natCast]
    rw [e]
    show Result.ok _ (W.alloc (.cells (madeCells #[.int .i64 0, .int .i64 0] (s * s * 2)) _)) = _
    rw [spC_made]; rfl
  clear hi hz0 hz1 hz2
  go_enter Try.func60, Try.ntmps60
  go_wp2_with (go_at_call 59; refine (SH.out _).mono ?_; rintro e w' ⟨rfl, rfl⟩)
  have hB0 := Blk.made w 29 (spC (visTo c o s 0))
  have hb0 := (Below.refl w.heap.size w).alloc (Nat.le_refl _) (.cells (spC (visTo c o s 0)) 29)
  go_loopw [7] (fun i wr => ∃ k : Nat, k ≤ s ∧ i = .int .i64 k ∧ Blk wr w.heap.size 29 (spC (visTo c o s k)) ∧ Below w.heap.size w wr) (fun i _ => s - (intOf i).toNat)
  case atStart => exact ⟨0, Nat.zero_le _, rfl, hB0, hb0⟩
  case round =>
    obtain ⟨k, hk, rfl, hB, hb⟩ := hrel
    obtain ⟨wo, rfl⟩ : ∃ wo : World, wo = wr := ⟨_, rfl⟩
    by_cases hlt : k < s
    · go_wp2_with fail
      go_loopw [8] (fun i wr => ∃ m : Nat, m ≤ s ∧ i = .int .i64 m ∧ Blk wr w.heap.size 29 (spC (visRow c o k (visTo c o s k) m)) ∧ Below w.heap.size w wr) (fun i _ => s - (intOf i).toNat)
      case atStart => exact ⟨0, Nat.zero_le _, rfl, hB, hb⟩
      case round =>
        obtain ⟨m, hm, rfl, hBm, hbm⟩ := hrel
        by_cases hml : m < s
        · have hI := idxI_bd c o m k h0 h4 (by omega) (by rw [HS.out]; omega) (by omega) (by rw [HS.out]; omega)
          rw [HS.out] at hI
          obtain ⟨q, hq⟩ := Int.eq_ofNat_of_zero_le hI.1
          have hq0 : (0 : Int) ≤ (q : Int) := by omega
          have hq2 : (q : Int) < (s : Int) * s := by have := hI.2; rw [hq] at this; exact this
          have hqn : q < s * s := by rw [← Int.natCast_mul] at hq2; omega
          have C := fun W : World => indexS_any c o m k W hc0 hc3 h0 h4 (by omega) (by rw [HS.out]; omega) (by omega) (by rw [HS.out]; omega)
          rw [hq] at C
          have CH := Lib.hid C
          have HQ := Lib.hid hq
          clear C hI hq
          obtain ⟨⟨u1, hu1⟩, ⟨u2, hu2⟩⟩ := spC_ex (visRow c o k (visTo c o s k) m) (s * s) q (by rw [visRow_length, visTo_length]) hqn
          have hc1 := (hBm.cell (q * 2)).trans hu1
          have hc2 := (hBm.cell (q * 2 + 1)).trans hu2
          clear hu1 hu2
          have hf1 := hBm.free (q * 2)
          have hf2 := hBm.free (q * 2 + 1)
          have hlt' := hBm.lt
          go_wp2_with (go_at_call 79; refine (CH.out _).mono ?_; rintro e w' ⟨rfl, rfl⟩)
          go_roundw
          case rel =>
            refine ⟨m + 1, by omega, by go_num, ?_, ?_⟩
            · rw [visRow, HQ.out, Int.toNat_natCast, ← spC_set]
              exact (hBm.store _ _).store _ _
            · exact (hbm.setCell (p := ⟨w.heap.size, _, none⟩) (Nat.le_refl _) _).setCell (p := ⟨w.heap.size, _, none⟩) (Nat.le_refl _) _
          case measure => simp [intOf]; omega
        · obtain rfl : m = s := by omega
          go_wp2_with fail
          go_roundw
          case rel => exact ⟨k + 1, by omega, by go_num, hBm, hbm⟩
          case measure => simp [intOf]; omega
    · obtain rfl : k = s := by omega
      go_wp2_with fail
      go_ret
      exact ⟨rfl, hB, hb⟩

/-- What SpotAt answers. -/
def spotOk (c o n : Int) : Bool := curveOkB c o && inB n 0 (side o * side o - 1)
def spotP (c o n : Int) : Int × Int := if spotOk c o n then (visTo c o (side o).toNat (side o).toNat).getD n.toNat (0, 0) else (0, 0)
def spotV (p : Int × Int) : Value := .agg #[.int .i64 p.1, .int .i64 p.2]

theorem curveOk_iff {c o : Int} : curveOkB c o = true ↔ (0 ≤ c ∧ c ≤ 3) ∧ 0 ≤ o ∧ o ≤ 4 := by simp [curveOkB, inB]

theorem spot_ret {c o n : Int} {p : Int × Int} {b : Bool} (h : spotP c o n = p ∧ spotOk c o n = b) : Ending.returned (.tuple #[.agg #[.int .i64 p.1, .int .i64 p.2], .bool b]) = .returned (.tuple #[spotV (spotP c o n), .bool (spotOk c o n)]) := by
  rw [h.1, h.2]; rfl

set_option maxHeartbeats 400000 in
theorem spotAt_any (c o n : Int) (w : World) :
    Calls Try.prog 17 #[.int .i64 c, .int .i64 o, .int .i64 n] w fun e w' => e = .returned (.tuple #[spotV (spotP c o n), .bool (spotOk c o n)]) ∧ Below w.heap.size w w' := by
  cases h1 : curveOkB c o
  · have F : Hid (spotP c o n = (0, 0) ∧ spotOk c o n = false) := by simp [Hid, spotP, spotOk, h1]
    go_enter Try.func17, Try.ntmps17
    go_wp2_with (first | (go_at_call 47; refine (curveOk_any _ _ _).mono ?_; rintro e w' ⟨rfl, rfl⟩))
    refine bodyPost_ret (v := .tuple #[.agg #[.int .i64 0, .int .i64 0], .bool false]) (by simp [results, Try.results17, go_sem]) rfl ⟨spot_ret F.out, ?_⟩
    go_grown
  · obtain ⟨⟨hc0, hc3⟩, h0, h4⟩ := curveOk_iff.1 h1
    have hS : wrap64 (2 ^ (2 * o).toNat) = side o * side o := by
      rcases side_cases h0 h4 with rfl | rfl | rfl | rfl | rfl <;> decide +kernel
    have hS1 := side_pos h0 h4
    have hS2 := side_le h0 h4
    obtain ⟨s, hs⟩ := Int.eq_ofNat_of_zero_le (show 0 ≤ side o by omega)
    have VH := Lib.hid (fun W => visits_any c o W hc0 hc3 h0 h4 s hs)
    have hss : side o * side o ≤ 256 := by
      have h1 : side o * side o ≤ 16 * side o := Int.mul_le_mul_of_nonneg_right (by omega) (by omega)
      omega
    have hss0 : 0 ≤ side o * side o := Int.mul_nonneg (by omega) (by omega)
    cases h2 : inB n 0 (side o * side o - 1)
    · have F : Hid (spotP c o n = (0, 0) ∧ spotOk c o n = false) := by simp [Hid, spotP, spotOk, h2]
      clear hs
      go_enter Try.func17, Try.ntmps17
      go_wp2_with (first | (go_at_call 47; refine (curveOk_any _ _ _).mono ?_; rintro e w' ⟨rfl, rfl⟩) | (go_at_call 51; refine (in_any _ _ _ _).mono ?_; rintro e w' ⟨rfl, rfl⟩))
      refine bodyPost_ret (v := .tuple #[.agg #[.int .i64 0, .int .i64 0], .bool false]) (by simp [results, Try.results17, go_sem]) rfl ⟨spot_ret F.out, ?_⟩
      go_grown
    · obtain ⟨hn0, hn1⟩ := inB_iff.1 h2
      obtain ⟨q, rfl⟩ := Int.eq_ofNat_of_zero_le hn0
      have hq2 : (q : Int) < (s : Int) * s := by rw [← hs]; omega
      have hqn : q < s * s := by rw [← Int.natCast_mul] at hq2; omega
      have hl : q < (visTo c o s s).length := by rw [visTo_length]; exact hqn
      have F : Hid (spotP c o q = (visTo c o s s)[q] ∧ spotOk c o q = true) := by
        simp only [Hid, spotP, spotOk, h1, h2]; simp [hs, hl]
      clear hs
      go_enter Try.func17, Try.ntmps17
      go_wp2_with (first | (go_at_call 47; refine (curveOk_any _ _ _).mono ?_; rintro e w' ⟨rfl, rfl⟩) | (go_at_call 51; refine (in_any _ _ _ _).mono ?_; rintro e w' ⟨rfl, rfl⟩))
      refine (VH.out _).mono ?_
      rintro e w1 ⟨rfl, hB, hb⟩
      have hc1 := (hB.cell (q * 2)).trans (spC_fst _ q hl)
      have hc2 := (hB.cell (q * 2 + 1)).trans (spC_snd _ q hl)
      obtain ⟨hco, hfo⟩ := bcell hb
      have hz := hb.size
      simp only [World.size_alloc] at hz hco hfo hc1 hc2
      go_wp2_with fail
      refine bodyPost_ret (v := .tuple #[.agg #[.int .i64 (visTo c o s s)[q].1, .int .i64 (visTo c o s s)[q].2], .bool true]) (by simp [results, Try.results17, go_sem, hco]) rfl ⟨spot_ret F.out, ?_⟩
      exact ((((Below.refl _ _).alloc (Nat.le_refl _) _).trans (hb.mono (by simp))).setCell (p := ⟨w.heap.size, _, none⟩) (Nat.le_refl _) _).setCell (p := ⟨w.heap.size, _, none⟩) (Nat.le_refl _) _
set_option maxHeartbeats 400000 in
theorem spotAtS_any (c o n : Int) (w : World) :
    Calls Try.prog 20 #[.int .i64 c, .int .i64 o, .int .i64 n] w fun e w' => e = .returned (.tuple #[spotV (spotP c o n), .bool (spotOk c o n)]) ∧ Below w.heap.size w w' := by
  cases h1 : curveOkB c o
  · have F : Hid (spotP c o n = (0, 0) ∧ spotOk c o n = false) := by simp [Hid, spotP, spotOk, h1]
    go_enter Try.func20, Try.ntmps20
    go_wp2_with (first | (go_at_call 57; refine (ask_any _ _ _).mono ?_; rintro e w' ⟨rfl, rfl⟩))
    refine bodyPost_ret (v := .tuple #[.agg #[.int .i64 0, .int .i64 0], .bool false]) (by simp [results, Try.results20, go_sem]) rfl ⟨spot_ret F.out, ?_⟩
    go_grown
  · obtain ⟨⟨hc0, hc3⟩, h0, h4⟩ := curveOk_iff.1 h1
    have hS1 := side_pos h0 h4
    have hS2 := side_le h0 h4
    obtain ⟨s, hs⟩ := Int.eq_ofNat_of_zero_le (show 0 ≤ side o by omega)
    have VH := Lib.hid (fun W => spotsS_any c o W hc0 hc3 h0 h4 s hs)
    have hss : side o * side o ≤ 256 := by
      have h1 : side o * side o ≤ 16 * side o := Int.mul_le_mul_of_nonneg_right (by omega) (by omega)
      omega
    have hss0 : 0 ≤ side o * side o := Int.mul_nonneg (by omega) (by omega)
    cases h2 : inB n 0 (side o * side o - 1)
    · have F : Hid (spotP c o n = (0, 0) ∧ spotOk c o n = false) := by simp [Hid, spotP, spotOk, h2]
      clear hs
      go_enter Try.func20, Try.ntmps20
      go_wp2_with (first | (go_at_call 57; refine (ask_any _ _ _).mono ?_; rintro e w' ⟨rfl, rfl⟩) | (go_at_call 59; refine (sideO_any _ _ h0 h4).mono ?_; rintro e w' ⟨rfl, rfl⟩) | (go_at_call 58; refine (inS_any _ _ _ _).mono ?_; rintro e w' ⟨rfl, rfl⟩))
      refine bodyPost_ret (v := .tuple #[.agg #[.int .i64 0, .int .i64 0], .bool false]) (by simp [results, Try.results20, go_sem]) rfl ⟨spot_ret F.out, ?_⟩
      go_grown
    · obtain ⟨hn0, hn1⟩ := inB_iff.1 h2
      obtain ⟨q, rfl⟩ := Int.eq_ofNat_of_zero_le hn0
      have hq2 : (q : Int) < (s : Int) * s := by rw [← hs]; omega
      have hqn : q < s * s := by rw [← Int.natCast_mul] at hq2; omega
      have hl : q < (visTo c o s s).length := by rw [visTo_length]; exact hqn
      have F : Hid (spotP c o q = (visTo c o s s)[q] ∧ spotOk c o q = true) := by
        simp only [Hid, spotP, spotOk, h1, h2]; simp [hs, hl]
      clear hs
      go_enter Try.func20, Try.ntmps20
      go_wp2_with (first | (go_at_call 57; refine (ask_any _ _ _).mono ?_; rintro e w' ⟨rfl, rfl⟩) | (go_at_call 59; refine (sideO_any _ _ h0 h4).mono ?_; rintro e w' ⟨rfl, rfl⟩) | (go_at_call 58; refine (inS_any _ _ _ _).mono ?_; rintro e w' ⟨rfl, rfl⟩))
      refine (VH.out _).mono ?_
      rintro e w1 ⟨rfl, hB, hb⟩
      have hc1 := (hB.cell (q * 2)).trans (spC_fst _ q hl)
      have hc2 := (hB.cell (q * 2 + 1)).trans (spC_snd _ q hl)
      obtain ⟨hco, hfo⟩ := bcell hb
      have hz := hb.size
      simp only [World.size_alloc] at hz hco hfo hc1 hc2
      go_wp2_with fail
      refine bodyPost_ret (v := .tuple #[.agg #[.int .i64 (visTo c o s s)[q].1, .int .i64 (visTo c o s s)[q].2], .bool true]) (by simp [results, Try.results20, go_sem, hco]) rfl ⟨spot_ret F.out, ?_⟩
      exact ((((Below.refl _ _).alloc (Nat.le_refl _) _).trans (hb.mono (by simp))).setCell (p := ⟨w.heap.size, _, none⟩) (Nat.le_refl _) _).setCell (p := ⟨w.heap.size, _, none⟩) (Nat.le_refl _) _
end Go.Proofs.Ytbkgmegpgnmlpaa
