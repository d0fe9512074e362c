/- Numbers that an input of the tenth part chooses; rows of one size. -/
import Derived.Test.YtgbciimfpahekaaDoorLevB
import Derived.Test.YtgbciimfpahekaaDoorBytes
namespace Go.Proofs.YtgbciimfpahekaaDoor
open Go.RowKit

set_option maxHeartbeats 400000 in
theorem b10Long_any (A B : Option Addr) (n c m d : Nat) (hn : n ≤ maxLen) (hm : m ≤ maxLen) (w : World) :
    Calls Tryd.prog 15 #[.slice A n c, .slice B m d] w fun e w' => e = .returned (.bool (decide (1048576 < n) || decide (1048576 < m))) ∧ w = w' := by
  unfold maxLen at hn hm
  by_cases h1 : 1048576 < n
  · have t1 : (1048576 : Int) < (n : Int) := by omega
    go_enter Tryd.func15, Tryd.ntmps15
    go_wp2_with fail
    go_ret
    exact ⟨ret_bool (by simp [h1]), rfl⟩
  · have t1 : ¬ (1048576 : Int) < (n : Int) := by omega
    have F : Hid ((decide (1048576 < n) || decide (1048576 < m)) = decide ((1048576 : Int) < (m : Int))) := by
      simp [Hid, h1]; omega
    clear h1
    go_enter Tryd.func15, Tryd.ntmps15
    go_wp2_with fail
    go_ret
    exact ⟨ret_bool F.out.symm, rfl⟩

set_option maxHeartbeats 1000000 in
theorem b10At_any (A : Option Addr) (n c : Nat) (l : List Int) (k m : Nat) (w : World) (hl : BytesAt w A n l) (hm : 0 < m) (hm2 : m ≤ 70000) (hk : k ≤ 10) (_hn : n ≤ maxLen) :
    Calls Tryd.prog 18 #[.slice A n c, .int .i64 k, .int .i64 m] w fun e w' => (∃ v : Nat, v < m ∧ e = .returned (.int .i64 v)) ∧ w = w' := by
  by_cases hm1 : m = 1
  · have t0 : (m : Int) ≤ 1 := by omega
    clear hl hm1
    go_enter Tryd.func18, Tryd.ntmps18
    go_wp2_with fail
    go_ret
    exact ⟨⟨0, by omega, rfl⟩, rfl⟩
  have t0 : ¬ (m : Int) ≤ 1 := by omega
  have t1 : (m : Int) ≠ 0 := by omega
  by_cases h : k < n
  · obtain ⟨a, rfl, ha, hc⟩ := hl.2.2 (by omega)
    have hkl : k < l.length := by rw [hl.1]; exact h
    have c1 := hc k hkl
    obtain ⟨b0, b1⟩ := hl.2.1 l[k] (List.getElem_mem hkl)
    generalize l[k] = v at *
    have k1 : (k : Int) < (n : Int) := by omega
    have i0 : (0 : Int) ≤ (k : Int) := by omega
    clear hc hl
    go_enter Tryd.func18, Tryd.ntmps18
    go_wp2_with fail
    go_ret
    refine ⟨⟨(v % (m : Int)).toNat, ?_, ?_⟩, rfl⟩
    · have := Int.emod_lt_of_pos v (show (0 : Int) < m by omega)
      have := Int.emod_nonneg v (show (m : Int) ≠ 0 by omega)
      omega
    · have := Int.emod_nonneg v (show (m : Int) ≠ 0 by omega)
      have e1 : (((v % (m : Int)).toNat : Nat) : Int) = v % (m : Int) := by omega
      rw [e1]
      rfl
  · have k1 : ¬ (k : Int) < (n : Int) := by omega
    have q0 : (0 : Int) ≤ (k : Int) * 37 + 11 := by omega
    clear hl
    go_enter Tryd.func18, Tryd.ntmps18
    go_wp2_with fail
    go_ret
    refine ⟨⟨(((k : Int) * 37 + 11) % (m : Int)).toNat, ?_, ?_⟩, rfl⟩
    · have := Int.emod_lt_of_pos ((k : Int) * 37 + 11) (show (0 : Int) < m by omega)
      have := Int.emod_nonneg ((k : Int) * 37 + 11) (show (m : Int) ≠ 0 by omega)
      omega
    · have := Int.emod_nonneg ((k : Int) * 37 + 11) (show (m : Int) ≠ 0 by omega)
      have e1 : (((((k : Int) * 37 + 11) % (m : Int)).toNat : Nat) : Int) = ((k : Int) * 37 + 11) % (m : Int) := by omega
      rw [e1]
      rfl

end Go.Proofs.YtgbciimfpahekaaDoor
