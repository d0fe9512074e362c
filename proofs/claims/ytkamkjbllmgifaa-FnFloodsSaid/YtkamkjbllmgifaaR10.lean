/- Numbers that an input of the tenth part chooses; rows of one size. -/
import Derived.Test.YtkamkjbllmgifaaLevB
import Derived.Test.YtkamkjbllmgifaaBytes
namespace Go.Proofs.Ytkamkjbllmgifaa
open Go.RowKit

set_option maxHeartbeats 400000 in
theorem b10Long_any (A B : Option Addr) (n c m d : Nat) (hn : n ≤ maxLen) (hm : m ≤ maxLen) (w : World) :
    Calls Try.prog 9 #[.slice A n c, .slice B m d] w fun e w' => e = .returned (.bool (decide (1048576 < n) || decide (1048576 < m))) ∧ w = w' := by
  unfold maxLen at hn hm
  by_cases h1 : 1048576 < n
  · have t1 : (1048576 : Int) < (n : Int) := by omega
    go_enter Try.func9, Try.ntmps9
    go_wp2_with fail
    go_ret
    exact ⟨ret_bool (by simp [h1]), rfl⟩
  · have t1 : ¬ (1048576 : Int) < (n : Int) := by omega
    have F : Hid ((decide (1048576 < n) || decide (1048576 < m)) = decide ((1048576 : Int) < (m : Int))) := by
      simp [Hid, h1]; omega
    clear h1
    go_enter Try.func9, Try.ntmps9
    go_wp2_with fail
    go_ret
    exact ⟨ret_bool F.out.symm, rfl⟩

set_option maxHeartbeats 1000000 in
theorem b10At_any (A : Option Addr) (n c : Nat) (l : List Int) (k m : Nat) (w : World) (hl : BytesAt w A n l) (hm : 0 < m) (hm2 : m ≤ 70000) (hk : k ≤ 10) (_hn : n ≤ maxLen) :
    Calls Try.prog 11 #[.slice A n c, .int .i64 k, .int .i64 m] w fun e w' => (∃ v : Nat, v < m ∧ e = .returned (.int .i64 v)) ∧ w = w' := by
  by_cases hm1 : m = 1
  · have t0 : (m : Int) ≤ 1 := by omega
    clear hl hm1
    go_enter Try.func11, Try.ntmps11
    go_wp2_with fail
    go_ret
    exact ⟨⟨0, by omega, rfl⟩, rfl⟩
  have t0 : ¬ (m : Int) ≤ 1 := by omega
  have t1 : (m : Int) ≠ 0 := by omega
  by_cases h : k < n
  · obtain ⟨a, rfl, ha, hc⟩ := hl.2.2 (by omega)
    have hkl : k < l.length := by rw [hl.1]; exact h
    have c1 := hc k hkl
    obtain ⟨b0, b1⟩ := hl.2.1 l[k] (List.getElem_mem hkl)
    generalize l[k] = v at *
    have k1 : (k : Int) < (n : Int) := by omega
    have i0 : (0 : Int) ≤ (k : Int) := by omega
    clear hc hl
    go_enter Try.func11, Try.ntmps11
    go_wp2_with fail
    go_ret
    refine ⟨⟨(v % (m : Int)).toNat, ?_, ?_⟩, rfl⟩
    · have := Int.emod_lt_of_pos v (show (0 : Int) < m by omega)
      have := Int.emod_nonneg v (show (m : Int) ≠ 0 by omega)
      omega
    · have := Int.emod_nonneg v (show (m : Int) ≠ 0 by omega)
      have e1 : (((v % (m : Int)).toNat : Nat) : Int) = v % (m : Int) := by omega
      rw [e1]
      rfl
  · have k1 : ¬ (k : Int) < (n : Int) := by omega
    have q0 : (0 : Int) ≤ (k : Int) * 37 + 11 := by omega
    clear hl
    go_enter Try.func11, Try.ntmps11
    go_wp2_with fail
    go_ret
    refine ⟨⟨(((k : Int) * 37 + 11) % (m : Int)).toNat, ?_, ?_⟩, rfl⟩
    · have := Int.emod_lt_of_pos ((k : Int) * 37 + 11) (show (0 : Int) < m by omega)
      have := Int.emod_nonneg ((k : Int) * 37 + 11) (show (m : Int) ≠ 0 by omega)
      omega
    · have := Int.emod_nonneg ((k : Int) * 37 + 11) (show (m : Int) ≠ 0 by omega)
      have e1 : (((((k : Int) * 37 + 11) % (m : Int)).toNat : Nat) : Int) = ((k : Int) * 37 + 11) % (m : Int) := by omega
      rw [e1]
      rfl

set_option maxHeartbeats 1000000 in
theorem b10Shape_any (A B : Option Addr) (c d n : Nat) (r1 r2 : List (List Int)) (w : World) (hA : MatRd w A r1) (hB : MatRd w B r2) (h1 : r1.length = n) (h2 : r2.length = n) (hn0 : 0 < n) (hn : n ≤ 1000) (W : Nat)
    (hr1 : ∀ i (h : i < r1.length), r1[i].length = W) (hr2 : ∀ i (h : i < r2.length), r2[i].length = W) :
    Calls Try.prog 15 #[.slice A n c, .slice B n d] w fun e w' => e = .returned (.bool true) ∧ Below w.heap.size w w' := by
  have XA := Lib.hid (fun i (hi : i < n) => (show ∃ g Ai ci, A = some ⟨g, 0, none⟩ ∧ w.cell? ⟨g, i, none⟩ = some (.slice Ai W ci) by
    obtain ⟨g, e, hg, hc⟩ := hA (by omega)
    obtain ⟨Ai, ci, q1, q2⟩ := hc i (by omega)
    rw [hr1] at q1
    exact ⟨g, Ai, ci, e, q1⟩))
  have XB := Lib.hid (fun i (hi : i < n) => (show ∃ g Ai ci, B = some ⟨g, 0, none⟩ ∧ w.cell? ⟨g, i, none⟩ = some (.slice Ai W ci) by
    obtain ⟨g, e, hg, hc⟩ := hB (by omega)
    obtain ⟨Ai, ci, q1, q2⟩ := hc i (by omega)
    rw [hr2] at q1
    exact ⟨g, Ai, ci, e, q1⟩))
  have t0 : ((n : Int) != n) = false := by simp
  have t1 : ((W : Int) != W) = false := by simp
  have t2 : (0 : Int) < (n : Int) := by omega
  clear hA hB h1 h2 hr1 hr2
  go_enter Try.func15, Try.ntmps15
  go_wp2_with fail
  go_loopw [5] (fun i wr => ∃ k j : Nat, k ≤ n ∧ i = .int .i64 k ∧ wr = w.drewN j) (fun i _ => n - (intOf i).toNat)
  case atStart => exact ⟨0, 0, Nat.zero_le _, rfl, rfl⟩
  case round =>
    obtain ⟨k, j, hk, rfl, rfl⟩ := hrel
    by_cases hlt : k < n
    · obtain ⟨g, Ai, ci, rfl, q1⟩ := XA.out k hlt
      obtain ⟨g', Bi, di, rfl, q2⟩ := XB.out k hlt
      have i0 : (0 : Int) ≤ (k : Int) := by omega
      have i1 : (k : Int) < (n : Int) := by omega
      go_wp2_with fail
      go_quiet (fail)
      go_wp2_with fail
      go_roundw
      case rel => exact ⟨k + 1, _, by omega, by go_num, rfl⟩
      case measure => simp [intOf]; omega
    · obtain rfl : k = n := by omega
      go_wp2_with fail
      go_ret
      exact ⟨rfl, Ext.drawN (Ext.refl _) j⟩
end Go.Proofs.Ytkamkjbllmgifaa
