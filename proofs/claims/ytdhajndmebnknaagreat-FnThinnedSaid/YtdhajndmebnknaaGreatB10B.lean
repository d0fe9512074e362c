/- Numbers that an input of the tenth part chooses. Whether a pixel is black, as a law asks. -/
import Derived.Test.YtdhajndmebnknaaGreatBytes
import Derived.Test.YtdhajndmebnknaaGreatSIs
namespace Go.Proofs.YtdhajndmebnknaaGreat
open Go.RowKit

set_option maxHeartbeats 400000 in
theorem b10Long_any (A B : Option Addr) (n c m d : Nat) (hn : n ≤ maxLen) (hm : m ≤ maxLen) (w : World) :
    Calls Tryz.prog 4 #[.slice A n c, .slice B m d] w fun e w' => e = .returned (.bool (decide (1048576 < n) || decide (1048576 < m))) ∧ w = w' := by
  unfold maxLen at hn hm
  by_cases h1 : 1048576 < n
  · have t1 : (1048576 : Int) < (n : Int) := by omega
    go_enter Tryz.func4, Tryz.ntmps4
    go_wp2_with fail
    go_ret
    exact ⟨ret_bool (by simp [h1]), rfl⟩
  · have t1 : ¬ (1048576 : Int) < (n : Int) := by omega
    have F : Hid ((decide (1048576 < n) || decide (1048576 < m)) = decide ((1048576 : Int) < (m : Int))) := by
      simp [Hid, h1]; omega
    clear h1
    go_enter Tryz.func4, Tryz.ntmps4
    go_wp2_with fail
    go_ret
    exact ⟨ret_bool F.out.symm, rfl⟩

set_option maxHeartbeats 1000000 in
theorem b10At_any (A : Option Addr) (n c : Nat) (l : List Int) (k m : Nat) (w : World) (hl : BytesAt w A n l) (hm : 0 < m) (hm2 : m ≤ 70000) (hk : k ≤ 10) (_hn : n ≤ maxLen) :
    Calls Tryz.prog 13 #[.slice A n c, .int .i64 k, .int .i64 m] w fun e w' => (∃ v : Nat, v < m ∧ e = .returned (.int .i64 v)) ∧ w = w' := by
  by_cases hm1 : m = 1
  · have t0 : (m : Int) ≤ 1 := by omega
    clear hl hm1
    go_enter Tryz.func13, Tryz.ntmps13
    go_wp2_with fail
    go_ret
    exact ⟨⟨0, by omega, rfl⟩, rfl⟩
  have t0 : ¬ (m : Int) ≤ 1 := by omega
  have t1 : (m : Int) ≠ 0 := by omega
  by_cases h : k < n
  · obtain ⟨a, rfl, ha, hc⟩ := hl.2.2 (by omega)
    have hkl : k < l.length := by rw [hl.1]; exact h
    have c1 := hc k hkl
    obtain ⟨b0, b1⟩ := hl.2.1 l[k] (List.getElem_mem hkl)
    generalize l[k] = v at *
    have k1 : (k : Int) < (n : Int) := by omega
    have i0 : (0 : Int) ≤ (k : Int) := by omega
    clear hc hl
    go_enter Tryz.func13, Tryz.ntmps13
    go_wp2_with fail
    go_ret
    refine ⟨⟨(v % (m : Int)).toNat, ?_, ?_⟩, rfl⟩
    · have := Int.emod_lt_of_pos v (show (0 : Int) < m by omega)
      have := Int.emod_nonneg v (show (m : Int) ≠ 0 by omega)
      omega
    · have := Int.emod_nonneg v (show (m : Int) ≠ 0 by omega)
      have e1 : (((v % (m : Int)).toNat : Nat) : Int) = v % (m : Int) := by omega
      rw [e1]
      rfl
  · have k1 : ¬ (k : Int) < (n : Int) := by omega
    have q0 : (0 : Int) ≤ (k : Int) * 37 + 11 := by omega
    clear hl
    go_enter Tryz.func13, Tryz.ntmps13
    go_wp2_with fail
    go_ret
    refine ⟨⟨(((k : Int) * 37 + 11) % (m : Int)).toNat, ?_, ?_⟩, rfl⟩
    · have := Int.emod_lt_of_pos ((k : Int) * 37 + 11) (show (0 : Int) < m by omega)
      have := Int.emod_nonneg ((k : Int) * 37 + 11) (show (m : Int) ≠ 0 by omega)
      omega
    · have := Int.emod_nonneg ((k : Int) * 37 + 11) (show (m : Int) ≠ 0 by omega)
      have e1 : (((((k : Int) * 37 + 11) % (m : Int)).toNat : Nat) : Int) = ((k : Int) * 37 + 11) % (m : Int) := by omega
      rw [e1]
      rfl

end Go.Proofs.YtdhajndmebnknaaGreat

namespace Go.Proofs.YtdhajndmebnknaaGreat
open Go.RowKit

set_option maxHeartbeats 1000000 in
theorem pixelAtS_any (A : Option Addr) (c : Nat) (rows : List ByteArray) (x y : Int) (w : World) (h : Rd w A (strs rows)) (hok : picOk rows = true) :
    Calls Tryz.prog 37 #[.agg #[.slice A rows.length c], .int .i64 x, .int .i64 y] w fun e w' => e = .returned (.tuple #[.bool (bit (picBits rows) (picW rows) rows.length x y), .bool (hasB (picW rows) rows.length x y)]) ∧ Below w.heap.size w w' := by
  obtain ⟨s1, s2, s3, s4⟩ := picOk_sizes hok
  have P1 : PicAt (w.alloc (.cells #[.slice A rows.length c] 26)) w.heap.size A c rows := ⟨by simp, (Blk.made w _ _).cell 0, h.ext (Ext.more (Ext.refl w) _)⟩
  have B1 : Below w.heap.size w (w.alloc (.cells #[.slice A rows.length c] 26)) := Ext.more (Ext.refl _) _
  have IS := Lib.hid (isPic_any w.heap.size A c rows _ P1 (by omega))
  rw [hok] at IS
  have HS := Lib.hid (fun k => hasS_any w.heap.size A c rows x y _ (P1.drewN k) s1 (by omega) (by omega))
  have BK := Lib.hid (fun k => black_any w.heap.size A c rows x y _ (P1.drewN k) hok)
  cases hh : hasB (picW rows) rows.length x y
  · rw [hh] at HS
    have F0 : bit (picBits rows) (picW rows) rows.length x y = false := by
      cases e : bit (picBits rows) (picW rows) rows.length x y with
      | false => rfl
      | true =>
        exfalso
        have : ¬ ((0 ≤ x ∧ x < picW rows) ∧ 0 ≤ y ∧ y < rows.length) := by rw [← hasB_iff, hh]; simp
        unfold bit at e
        simp only [Bool.and_eq_true, decide_eq_true_eq] at e
        omega
    rw [F0]
    clear P1 h hok s1 s2 s3 s4 hh F0 BK
    generalize rows.length = n at *
    go_enter Tryz.func37, Tryz.ntmps37
    go_wp2_with (first | (go_at_call 19; refine IS.out.mono ?_; rintro e w' ⟨rfl, k, rfl⟩) | (go_at_call 59; refine (HS.out _).mono ?_; rintro e w' ⟨rfl, rfl⟩))
    go_ret2
    exact ⟨rfl, Ext.drawN B1 _⟩
  · rw [hh] at HS
    clear P1 h hok s1 s2 s3 s4 hh
    generalize bit (picBits rows) (picW rows) rows.length x y = b at *
    generalize rows.length = n at *
    go_enter Tryz.func37, Tryz.ntmps37
    go_wp2_with (first | (go_at_call 19; refine IS.out.mono ?_; rintro e w' ⟨rfl, k, rfl⟩) | (go_at_call 59; refine (HS.out _).mono ?_; rintro e w' ⟨rfl, rfl⟩) | (go_at_call 60; refine (BK.out _).mono ?_; rintro e w' ⟨rfl, rfl⟩))
    go_ret2
    exact ⟨rfl, Ext.drawN B1 _⟩
set_option maxHeartbeats 1000000 in
theorem b10Black_any (A : Option Addr) (c : Nat) (rows : List ByteArray) (x y : Int) (w : World) (h : Rd w A (strs rows)) (hok : picOk rows = true) :
    Calls Tryz.prog 16 #[.agg #[.slice A rows.length c], .int .i64 x, .int .i64 y] w fun e w' => e = .returned (.bool (bit (picBits rows) (picW rows) rows.length x y)) ∧ Below w.heap.size w w' := by
  have B1 : Below w.heap.size w (w.alloc (.cells #[.slice A rows.length c] 26)) := Ext.more (Ext.refl _) _
  have PX := Lib.hid (pixelAtS_any A c rows x y _ (h.ext B1) hok)
  have F : Hid (hasB (picW rows) rows.length x y = false → bit (picBits rows) (picW rows) rows.length x y = false) := by
    intro hh
    cases e : bit (picBits rows) (picW rows) rows.length x y with
    | false => rfl
    | true =>
      exfalso
      have : ¬ ((0 ≤ x ∧ x < picW rows) ∧ 0 ≤ y ∧ y < rows.length) := by rw [← hasB_iff, hh]; simp
      unfold bit at e
      simp only [Bool.and_eq_true, decide_eq_true_eq] at e
      omega
  clear h hok
  generalize bit (picBits rows) (picW rows) rows.length x y = b at *
  generalize hasB (picW rows) rows.length x y = hb at *
  generalize rows.length = n at *
  cases hb
  · rw [F.out rfl] at *
    go_enter Tryz.func16, Tryz.ntmps16
    go_wp2_with fail
    refine PX.out.mono ?_
    rintro e w' ⟨rfl, hb2⟩
    go_wp2_with fail
    go_ret
    exact ⟨rfl, Ext.then_ B1 hb2⟩
  · go_enter Tryz.func16, Tryz.ntmps16
    go_wp2_with fail
    refine PX.out.mono ?_
    rintro e w' ⟨rfl, hb2⟩
    go_wp2_with fail
    go_ret
    exact ⟨rfl, Ext.then_ B1 hb2⟩
end Go.Proofs.YtdhajndmebnknaaGreat
