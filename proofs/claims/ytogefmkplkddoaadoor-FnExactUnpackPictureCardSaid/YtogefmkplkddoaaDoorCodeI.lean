/- Codes of numbers: the program's. -/
import Derived.Test.YtogefmkplkddoaaDoorCodeS
import Derived.Test.YtogefmkplkddoaaDoorRowF
import Derived.Test.YtogefmkplkddoaaDoorShelf
import Derived.Laws.BitsLemmas
namespace Go.Proofs.YtogefmkplkddoaaDoor
open Go.RowKit

theorem bins_bitLen : ∀ (m n : Nat), n < 2 ^ m → m ≤ 63 → Lib.bitLen n = (bins n).length := by
  intro m
  induction m with
  | zero => intro n h _; have : n = 0 := by simpa using h
            subst this; rw [bins_zero]; rfl
  | succ m ih =>
    intro n h hm
    by_cases h0 : n = 0
    · subst h0; rw [bins_zero]; rfl
    · have h64 : (2 : Nat) ^ (m + 1) ≤ 2 ^ 64 := Nat.pow_le_pow_right (by decide) (by omega)
      rw [bins_pos h0, Lib.bitLen_half n h0 (by omega), ih (n / 2) (by rw [Nat.pow_succ] at h; omega) (by omega)]
      simp; omega
theorem repeat_zeros : ∀ c, Lib.repeatL [48] c = zerosL c := by
  intro c
  induction c with
  | zero => rfl
  | succ c ih => rw [Lib.repeatL, ih, zerosL, zerosL, List.replicate_succ]; rfl
theorem shr_bit (n k : Nat) : ((n : Int) >>> k) % 2 = ((n / 2 ^ k % 2 : Nat) : Int) := by
  rw [Int.shiftRight_eq_div_pow]
  norm_cast
theorem bin8 (k : Nat) : ((UInt8.ofNat (48 + k % 2)).toNat : Int) = 48 + ((k % 2 : Nat) : Int) := by
  rw [binU]; omega

theorem and1 (a : Int) (h0 : 0 ≤ a) (h : a < 4611686018427387904) : bits BinOp.and IntKind.i64 a 1 = a % 2 :=
  bits_mask .i64 62 (by decide) (fun n h1 h2 => IntWalk.i64_in n (by have : (2 : Int) ^ 62 = 4611686018427387904 := by decide
                                                                     omega)) 1 (by decide) a h0 (by simpa using h)
theorem m48 (b : Nat) (h : b < 2) : (48 + (b : Int)) % 256 = 48 + (b : Int) := by omega
theorem w48 (b : Nat) (h : b < 2) : wrap64 (48 + (b : Int)) = 48 + (b : Int) := IntWalk.wrap64_in _ ⟨by omega, by omega⟩
set_option maxRecDepth 100000 in
set_option maxHeartbeats 1000000 in
theorem code_any (n : Nat) (w : World) (h0 : 0 < n) (hn : n ≤ 1000000001) :
    Calls Tryd.prog 68 #[.int .i64 n] w fun e w' => e = .returned (.string (codeB n)) ∧ Below w.heap.size w w' := by
  have hl := bins_31 hn
  have hl0 : 0 < (bins n).length := bins_lo 0 n (show 2 ^ 0 ≤ n from h0)
  have LB := Lib.hid (fun V => Tryd.bits_Len64 (n : Int) V (by omega) (by omega))
  rw [Int.toNat_natCast, bins_bitLen 30 n (by omega) (by omega)] at LB
  have HA := Lib.hid (hiBits_all _ n rfl)
  have CD : Hid (codeB n = ⟨(zerosL ((bins n).length - 1) ++ hiBits n (bins n).length (bins n).length).toArray⟩) := by rw [HA.out]; rfl
  have RP := Lib.hid (fun (c : Nat) V (hc : c ≤ 1000) => Tryd.strings_Repeat ⟨#[48]⟩ c V (by omega) (by simp [ByteArray.size]; omega))
  rw [CD.out]
  clear CD HA
  obtain ⟨m, hm⟩ : ∃ m, (bins n).length = m := ⟨_, rfl⟩
  rw [hm] at hl hl0 LB ⊢
  clear hm
  go_enter Tryd.func68, Tryd.ntmps68
  go_wp2_with fail
  refine (LB.out _).mono ?_
  rintro e w' ⟨rfl, hw⟩
  obtain rfl := hw.symm
  clear hw
  have j0 : (0 : Int) ≤ (m : Int) - 1 := by omega
  have e1 : (m : Int) - 1 = ((m - 1 : Nat) : Int) := by omega
  have R1 := Lib.hid (RP.out (m - 1) w (by omega))
  rw [← e1] at R1
  clear e1
  go_wp2_with fail
  refine R1.out.mono ?_
  rintro e w2 ⟨rfl, hb2⟩
  have er : Lib.repeatL (ByteArray.mk #[48]).data.toList (m - 1) = zerosL (m - 1) := repeat_zeros _
  rw [er]
  obtain ⟨cap, C, hcv, hrow⟩ := bytes_of_str w2 (zerosL (m - 1)) (by rw [zerosL_length]; omega)
  have zl := zerosL_length (m - 1)
  have B3 : Below w.heap.size w (w2.drew.alloc (.cells C 5 (C.size, C.size + 1))) := Ext.more (Ext.draw hb2) _
  rw [zl] at hcv hrow
  have HR := Lib.hid hrow
  have hz2 := hb2.size
  clear er hrow RP R1 LB hb2
  go_wp2_with fail
  go_loopw [4, 5] (fun v i wr => ∃ (k gb cb : Nat), k ≤ m ∧ i = .int .i64 ((m : Int) - 1 - k) ∧ v = .slice (some ⟨gb, 0, none⟩) (m - 1 + k) cb ∧ RowF wr w2.heap.size (.slice (some ⟨gb, 0, none⟩) (m - 1 + k) cb) (m - 1 + k) (u8s (zerosL (m - 1) ++ hiBits n m k)) ∧ Below w.heap.size w wr) (fun _ i _ => (intOf i + 1).toNat)
  case atStart => exact ⟨0, _, _, Nat.zero_le _, by go_num, rfl, by simp only [hiBits, List.append_nil, Nat.add_zero]; exact HR.out, B3⟩
  case round =>
    obtain ⟨k, gb, cb, hk, rfl, rfl, hrow, hb⟩ := hrel
    clear HR B3
    by_cases hlt : k < m
    · have SB := shr_bit n (m - 1 - k)
      have e2 : (m : Int) - 1 - k = ((m - 1 - k : Nat) : Int) := by omega
      have U8 := bin8 (n / 2 ^ (m - 1 - k))
      have HB : Hid (u8s (zerosL (m - 1) ++ hiBits n m (k + 1)) = u8s (zerosL (m - 1) ++ hiBits n m k) ++ [.int .u8 (48 + ((n / 2 ^ (m - 1 - k) % 2 : Nat) : Int))]) := by
        rw [Hid, hiBits, ← List.append_assoc]
        simp only [u8s, List.map_append, List.map_cons, List.map_nil, U8]
      clear U8
      have bb : n / 2 ^ (m - 1 - k) % 2 < 2 := Nat.mod_lt _ (by decide)
      rw [e2]
      have q0 : (n : Int) / 2 ^ (m - 1 - k) = ((n / 2 ^ (m - 1 - k) : Nat) : Int) := by norm_cast
      have q1 : n / 2 ^ (m - 1 - k) ≤ n := Nat.div_le_self _ _
      clear SB
      generalize n / 2 ^ (m - 1 - k) = dv at *
      have A1 := and1 (dv : Int) (by omega) (by omega)
      have A2 : (dv : Int) % 2 = ((dv % 2 : Nat) : Int) := by omega
      rw [A2] at A1
      clear A2
      generalize dv % 2 = bt at *
      have hzr := hb.size
      have W48 := w48 bt bb
      have M48 := m48 bt bb
      have hgl := hrow.block rfl
      have r1 := hrow.ext (Ext.more (Ext.refl wr) (.cells #[.int .u8 (48 + (bt : Int))] 5))
      have R1 := Lib.hid r1
      clear r1 e2
      go_wp2_with (at_builtin; refine wpList_appF (by rfl) _ _ (by rfl) w2.heap.size (.slice (some ⟨gb, 0, none⟩) (m - 1 + k) cb) (m - 1 + k) (u8s (zerosL (m - 1) ++ hiBits n m k)) (by rfl) R1.out wr.heap.size (.int .u8 (48 + (bt : Int))) (by rfl) (heap_alloc_new _ _) rfl (by omega) (by simp; omega) ?_; intro g3 cap3 w3 hrow3 hb3)
      go_roundw
      case rel => exact ⟨k + 1, g3, cap3, by omega, by go_num, by rw [show m - 1 + (k + 1) = m - 1 + k + 1 from rfl], by rw [show m - 1 + (k + 1) = m - 1 + k + 1 from rfl, HB.out]; exact hrow3, (Ext.more hb _).trans (hb3.mono hz2)⟩
      case measure => simp [intOf]
    · obtain rfl : k = m := by omega
      have hs := RowF.str hrow
      clear hrow
      go_wp2_with fail
      go_ret
      exact ⟨rfl, hb⟩
set_option maxHeartbeats 400000 in
theorem codeOfNumber_any (n : Int) (w : World) :
    Calls Tryd.prog 35 #[.int .i64 n] w fun e w' => e = .returned (.tuple #[.string (numCode n), .bool (numOk n)]) ∧ Below w.heap.size w w' := by
  have IN := Lib.hid (fun V => in_any n 1 1000000000 V)
  cases h : inB n 1 1000000000
  · have F : Hid (numCode n = ByteArray.empty ∧ numOk n = false) := by simp [Hid, numCode, numOk, h]
    rw [h] at IN
    rw [F.out.1, F.out.2]
    clear h
    go_enter Tryd.func35, Tryd.ntmps35
    go_wp2_with (go_at_call 67; refine (IN.out _).mono ?_; rintro e w' ⟨rfl, rfl⟩)
    go_ret2
    exact ⟨rfl, Ext.refl _⟩
  · have F : Hid (numCode n = codeB n.toNat ∧ numOk n = true) := by simp [Hid, numCode, numOk, h]
    rw [h] at IN
    rw [F.out.1, F.out.2]
    obtain ⟨h1, h2⟩ := inB_iff.1 h
    obtain ⟨k, rfl⟩ := Int.eq_ofNat_of_zero_le (show 0 ≤ n by omega)
    have CS := Lib.hid (fun V => code_any k V (by omega) (by omega))
    rw [Int.toNat_natCast]
    clear h F
    go_enter Tryd.func35, Tryd.ntmps35
    go_wp2_with (first | (go_at_call 67; refine (IN.out _).mono ?_; rintro e w' ⟨rfl, rfl⟩) | (go_at_call 68; refine (CS.out _).mono ?_; rintro e w' ⟨rfl, hb⟩))
    go_ret2
    exact ⟨rfl, hb⟩
end Go.Proofs.YtogefmkplkddoaaDoor
