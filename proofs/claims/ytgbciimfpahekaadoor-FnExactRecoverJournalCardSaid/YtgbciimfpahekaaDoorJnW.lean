/- Journals: the small functions. -/
import Derived.Test.YtgbciimfpahekaaDoorJnP
import Derived.Test.YtgbciimfpahekaaDoorMem
import Derived.Test.YtgbciimfpahekaaDoorShelf
import Derived.Lib.LaidTab
namespace Go.Proofs.YtgbciimfpahekaaDoor
open Go.RowKit

/-- The table of powers is what is listed. -/
def TabOk (w : World) : Prop := Lib.TabIs Tryd.prog w "internal/strconv.uint64pow10" .u64 Lib.pow10Tab ∧ 1 < w.heap.size
theorem TabOk.ext {w w' : World} (h : TabOk w) (hb : Below w.heap.size w w') : TabOk w' := by
  refine ⟨?_, Nat.lt_of_lt_of_le h.2 hb.size⟩
  have h1 := h.1
  have hg : Tryd.prog.globalNamed "internal/strconv.uint64pow10" = some 1 := by kernel_rfl
  unfold Lib.TabIs World.var? at h1 ⊢
  rw [hg] at h1 ⊢
  simp only [Option.bind_some] at h1 ⊢
  rw [hb.block _ h.2]
  exact h1
theorem below_grow (w : World) (k : Nat) (os : Array Obj) : Below w.heap.size w (Sort.grow (w.drewN k) os) := by
  refine ⟨rfl, rfl, rfl, ?_, fun j hj => ?_⟩
  · show w.heap.size ≤ (w.heap ++ os).size
    simp
  · show (w.heap ++ os)[j]? = _
    rw [Array.getElem?_append_left hj]
set_option maxHeartbeats 400000 in
theorem decimal_any (n : Int) (w : World) (h0 : -9223372036854775808 ≤ n) (h1 : n ≤ 9223372036854775807) (ht : TabOk w) :
    Calls Tryd.prog 24 #[.int .i64 n] w fun e w' => e = .returned (.string ⟨(Lib.itoa n).toArray⟩) ∧ Below w.heap.size w w' := by
  have C := Lib.hid (Tryd.strconv_FormatInt_10 n h0 h1 w ht.1)
  clear ht
  go_enter Tryd.func24, Tryd.ntmps24
  go_wp2_with fail
  refine (C.out).mono ?_
  rintro e w' ⟨rfl, k, os, rfl⟩
  go_wp2_with fail
  go_ret
  exact ⟨rfl, below_grow w k os⟩
set_option maxHeartbeats 400000 in
theorem checkS_any (n : Nat) (s : ByteArray) (w : World) (hn : n < 65129) (hs : s.size ≤ 9223372036854775807) :
    Calls Tryd.prog 27 #[.int .i64 n, .string s] w fun e w' => e = .returned (.int .i64 (chk n (bl s))) ∧ w = w' := by
  have LT := Lib.hid (fun l => chk_lt l n hn)
  have SN : Hid (∀ i (h : i < s.size), chk n ((bl s).take (i + 1)) = chk1 (chk n ((bl s).take i)) s[i]) := fun i h => by
    rw [List.take_add_one, List.getElem?_eq_getElem (by rw [bl_len]; exact h)]
    exact chk_snoc _ _ _
  go_enter Tryd.func27, Tryd.ntmps27
  go_wp2_with fail
  go_loop [0, 5] (fun v i => ∃ k : Nat, k ≤ s.size ∧ i = .int .i64 k ∧ v = .int .i64 (chk n ((bl s).take k))) (fun _ i => s.size - (intOf i).toNat)
  case atStart => exact ⟨0, Nat.zero_le _, rfl, by simp [chk]⟩
  case round =>
    obtain ⟨k, hk, rfl, rfl⟩ := hrel
    by_cases hlt : k < s.size
    · have S := Lib.hid (SN.out k hlt)
      have L1 := LT.out ((bl s).take k)
      have i0 : (0 : Int) ≤ (k : Int) := by omega
      have i1 : (k : Int) < (s.size : Int) := by omega
      obtain ⟨b, hbv⟩ : ∃ b, s[k].toNat = b := ⟨_, rfl⟩
      have hb : b < 256 := by rw [← hbv]; exact s[k].toNat_lt
      have hv : ((s[k].toNat : Nat) : Int) = (b : Int) := by rw [hbv]
      have E : Hid (chk1 (chk n ((bl s).take k)) s[k] = (421 * chk n ((bl s).take k) + b + 19) % 65129) := by rw [Hid, ← hbv]; rfl
      clear hbv
      generalize chk n ((bl s).take k) = a at *
      have e1 : (421 * (a : Int) + (b : Int) + 19).tmod 65129 = (((421 * a + b + 19) % 65129 : Nat) : Int) := by
        rw [Int.tmod_eq_emod_of_nonneg (by omega)]; omega
      go_wp2_with fail
      go_round
      case rel => exact ⟨k + 1, by omega, by go_num, by rw [S.out, E.out]; go_num⟩
      case measure => simp [intOf]; omega
    · obtain rfl : k = s.size := by omega
      go_wp2_with fail
      go_ret
      exact ⟨by rw [List.take_of_length_le (Nat.le_of_eq (bl_len s))]; rfl, rfl⟩
set_option maxHeartbeats 400000 in
theorem check_any (n : Nat) (s : ByteArray) (w : World) (hn : n < 65129) (hs : s.size ≤ 9223372036854775807) :
    Calls Tryd.prog 22 #[.int .i64 n, .string s] w fun e w' => e = .returned (.tuple #[.int .i64 (chk n (bl s)), .bool true]) ∧ w = w' := by
  have LT := Lib.hid (fun l => chk_lt l n hn)
  have SN : Hid (∀ i (h : i < s.size), chk n ((bl s).take (i + 1)) = chk1 (chk n ((bl s).take i)) s[i]) := fun i h => by
    rw [List.take_add_one, List.getElem?_eq_getElem (by rw [bl_len]; exact h)]
    exact chk_snoc _ _ _
  have IN := Lib.hid (in_any n 0 65128 w)
  rw [inB_true (by omega) (by omega)] at IN
  go_enter Tryd.func22, Tryd.ntmps22
  go_wp2_with fail
  refine (IN.out).mono ?_
  rintro e w' ⟨rfl, rfl⟩
  go_wp2_with fail
  go_loop [0, 6, 12] (fun v _ i => ∃ k : Nat, k ≤ s.size ∧ i = .int .i64 k ∧ v = .int .i64 (chk n ((bl s).take k))) (fun _ _ i => s.size - (intOf i).toNat)
  case atStart => exact ⟨0, Nat.zero_le _, rfl, by simp [chk]⟩
  case round =>
    obtain ⟨k, hk, rfl, rfl⟩ := hrel
    by_cases hlt : k < s.size
    · have S := Lib.hid (SN.out k hlt)
      have L1 := LT.out ((bl s).take k)
      have i0 : (0 : Int) ≤ (k : Int) := by omega
      have i1 : (k : Int) < (s.size : Int) := by omega
      obtain ⟨b, hbv⟩ : ∃ b, s[k].toNat = b := ⟨_, rfl⟩
      have hb : b < 256 := by rw [← hbv]; exact s[k].toNat_lt
      have hv : ((s[k].toNat : Nat) : Int) = (b : Int) := by rw [hbv]
      have E : Hid (chk1 (chk n ((bl s).take k)) s[k] = (421 * chk n ((bl s).take k) + b + 19) % 65129) := by rw [Hid, ← hbv]; rfl
      clear hbv
      generalize chk n ((bl s).take k) = a at *
      have e1 : (421 * (a : Int) + (b : Int) + 19).tmod 65129 = (((421 * a + b + 19) % 65129 : Nat) : Int) := by
        rw [Int.tmod_eq_emod_of_nonneg (by omega)]; omega
      go_wp2_with fail
      go_round
      case rel => exact ⟨k + 1, by omega, by go_num, by rw [S.out, E.out]; go_num⟩
      case measure => simp [intOf]; omega
    · obtain rfl : k = s.size := by omega
      go_wp2_with fail
      go_ret2
      exact ⟨by rw [List.take_of_length_le (Nat.le_of_eq (bl_len s))]; rfl, rfl⟩
end Go.Proofs.YtgbciimfpahekaaDoor
