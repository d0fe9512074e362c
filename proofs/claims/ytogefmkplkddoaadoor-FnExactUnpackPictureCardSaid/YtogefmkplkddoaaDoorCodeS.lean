/- Codes of numbers: the reference's. -/
import Derived.Test.YtogefmkplkddoaaDoorCodeM
import Derived.Test.YtogefmkplkddoaaDoorMem
import Derived.Test.YtogefmkplkddoaaDoorBts
namespace Go.Proofs.YtogefmkplkddoaaDoor
open Go.RowKit

set_option maxRecDepth 100000 in
set_option maxHeartbeats 1000000 in
theorem codeS_any (n : Nat) (w : World) (hn : n ≤ 1000000001) :
    Calls Tryd.prog 84 #[.int .i64 n] w fun e w' => e = .returned (.string (codeB n)) ∧ Below w.heap.size w w' := by
  have hl := bins_31 hn
  go_enter Tryd.func84, Tryd.ntmps84
  go_wp2_with fail
  go_loopw [3, 4] (fun o i wr => ∃ (k : Nat) (d : List UInt8), k ≤ n ∧ i = .int .i64 k ∧ o = .string ⟨d.toArray⟩ ∧ Hid (bins k ++ d = bins n) ∧ Below w.heap.size w wr) (fun _ i _ => (intOf i).toNat)
  case atStart => exact ⟨n, [], Nat.le_refl _, rfl, rfl, by rw [Hid, List.append_nil], Ext.refl _⟩
  case round =>
    obtain ⟨k, d, hk, rfl, rfl, hd, hb⟩ := hrel
    have hdl : d.length ≤ 30 := by
      have h3 := congrArg List.length hd.out
      rw [List.length_append] at h3
      omega
    by_cases hz : k = 0
    · subst hz
      have hd2 : d = bins n := by have := hd.out; rwa [bins_zero, List.nil_append] at this
      have HD := Lib.hid hd2
      clear hd hd2
      have hdz : (ByteArray.mk d.toArray).size = d.length := by simp [ByteArray.size]
      obtain ⟨m, hm⟩ : ∃ m, d.length = m := ⟨_, rfl⟩
      have HM := Lib.hid hm
      rw [hm] at hdl hdz
      go_wp2_with fail
      go_loopw [5, 6] (fun o i wr2 => ∃ j : Nat, 1 ≤ j ∧ (j ≤ m ∨ j = 1) ∧ i = .int .i64 j ∧ o = .string ⟨(zerosL (j - 1)).toArray⟩ ∧ wr2 = wr) (fun _ i _ => m - (intOf i).toNat)
      case atStart => exact ⟨1, Nat.le_refl _, Or.inr rfl, rfl, rfl, rfl⟩
      case round =>
        obtain ⟨j, hj1, hj, rfl, rfl, rfl⟩ := hrel
        by_cases hjl : j < m
        · have F : Hid (ByteArray.mk (zerosL (j - 1)).toArray ++ ByteArray.mk #[48] = ⟨(zerosL (j + 1 - 1)).toArray⟩) := by
            rw [Hid, show j + 1 - 1 = j - 1 + 1 by omega, zerosL_succ]
            exact bytes_app (zerosL (j - 1)) [48]
          have zl := zerosL_length (j - 1)
          have t3 : ¬ 9223372036854775807 < j - 1 + 1 := by omega
          go_wp2_with fail
          go_roundw
          case rel => exact ⟨j + 1, by omega, by omega, by go_num, by rw [← F.out], trivial⟩
          case measure => simp [intOf]; omega
        · have G : Hid (ByteArray.mk (zerosL (j - 1)).toArray ++ ByteArray.mk d.toArray = codeB n) := by
            have e : zerosL (j - 1) ++ d = codeL n := by
              have h1 := HM.out
              have h2 := HD.out
              rw [codeL, ← h2, h1]
              congr 2; omega
            rw [Hid, codeB, ← e]
            exact bytes_app _ _
          have zl := zerosL_length (j - 1)
          have t3 : ¬ 9223372036854775807 < j - 1 + m := by omega
          go_wp2_with fail
          go_ret
          exact ⟨by rw [G.out]; rfl, hb⟩
    · have t1 : (0 : Int) < (k : Int) := by omega
      have t3 : ¬ 9223372036854775807 < 1 + d.length := by omega
      have t4 : 0 < k := by omega
      have F : Hid (ByteArray.mk #[UInt8.ofNat (48 + k % 2)] ++ ByteArray.mk d.toArray = ⟨(UInt8.ofNat (48 + k % 2) :: d).toArray⟩) := bytes_app [UInt8.ofNat (48 + k % 2)] d
      have HD2 : Hid (bins (k / 2) ++ (UInt8.ofNat (48 + k % 2) :: d) = bins n) := by
        rw [Hid, ← hd.out, bins_pos hz, List.append_assoc]; rfl
      have hown := World.ownsRow_lit (e := 5) (size := 1) wr #[.int .u8 (48 + (k : Int) % 2)] 1 (Nat.le_refl _) (by decide) rfl
      have hcv : (convert 30 9 (.slice (some ⟨wr.heap.size, 0, none⟩) 1 1)).run Tryd.prog (wr.alloc (.cells #[.int .u8 (48 + (k : Int) % 2)] 5)) = .ok (.string ⟨#[UInt8.ofNat (48 + k % 2)]⟩) (wr.alloc (.cells #[.int .u8 (48 + (k : Int) % 2)] 5)) :=
        str_of_own (l := [UInt8.ofNat (48 + k % 2)]) (by rw [show u8s [UInt8.ofNat (48 + k % 2)] = [.int .u8 (48 + (k : Int) % 2)] by simp only [u8s, List.map_cons, List.map_nil, binU]]; exact hown) rfl
      clear hown hd
      generalize UInt8.ofNat (48 + k % 2) = u at *
      go_wp2_with fail
      go_roundw
      case rel => exact ⟨k / 2, u :: d, by omega, by simp, by rw [← F.out], HD2, Ext.more hb _⟩
      case measure => simp [intOf]; omega
def numOk (n : Int) : Bool := inB n 1 1000000000
def numCode (n : Int) : ByteArray := if numOk n then codeB n.toNat else ByteArray.empty
end Go.Proofs.YtogefmkplkddoaaDoor
