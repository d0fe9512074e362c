/- Trees of squares: the reference's texts and codes of pictures. -/
import Derived.Test.YtogefmkplkddoaaTrJ
import Derived.Test.YtogefmkplkddoaaSIs
namespace Go.Proofs.Ytogefmkplkddoaa
open Go.RowKit

/-- The pixels of a square of a picture. -/
def sqF (B : Int → Int → Bool) (x y : Nat) : Nat → Nat → Bool := fun i j => B ((x + i : Nat) : Int) ((y + j : Nat) : Int)
theorem sqF_right (B : Int → Int → Bool) (x y h : Nat) : (fun i j => sqF B x y (i + h) j) = sqF B (x + h) y := by
  funext i j
  simp only [sqF]
  rw [show x + (i + h) = x + h + i by omega]
theorem sqF_down (B : Int → Int → Bool) (x y h : Nat) : (fun i j => sqF B x y i (j + h)) = sqF B x (y + h) := by
  funext i j
  simp only [sqF]
  rw [show y + (j + h) = y + h + j by omega]
theorem sqF_both (B : Int → Int → Bool) (x y h : Nat) : (fun i j => sqF B x y (i + h) (j + h)) = sqF B (x + h) (y + h) := by
  funext i j
  simp only [sqF]
  rw [show x + (i + h) = x + h + i by omega, show y + (j + h) = y + h + j by omega]
open Classical in
noncomputable def smB (n : Nat) (f : Nat → Nat → Bool) : Bool := if same n f then true else false
theorem smB_yes {n : Nat} {f : Nat → Nat → Bool} (h : same n f) : smB n f = true := by unfold smB; exact if_pos h
theorem smB_no {n : Nat} {f : Nat → Nat → Bool} (h : ¬ same n f) : smB n f = false := by unfold smB; exact if_neg h
set_option maxRecDepth 100000 in
set_option maxHeartbeats 1000000 in
theorem sameS_any (p : Nat) (B : Int → Int → Bool) (n S x y : Nat) (w : World) (hS : S = 2 ^ n) (hS2 : S ≤ 16) (hx : x ≤ 100) (hy : y ≤ 100)
    (BK : Hid (∀ i j : Int, Calls Try.prog 58 #[.pointer (some ⟨p, 0, none⟩), .int .i64 i, .int .i64 j] w fun e w' => e = .returned (.bool (B i j)) ∧ w = w')) :
    Calls Try.prog 57 #[.pointer (some ⟨p, 0, none⟩), .int .i64 x, .int .i64 y, .int .i64 S] w fun e w' => e = .returned (.bool (smB n (sqF B x y))) ∧ w = w' := by
  have HS := Lib.hid hS
  clear hS
  go_enter Try.func57, Try.ntmps57
  go_wp2_with fail
  go_loopw [9, 10] (fun jv _ wr => ∃ j : Nat, j ≤ S ∧ jv = .int .i64 ((y + j : Nat) : Int) ∧ Hid (∀ i' j', i' < S → j' < j → sqF B x y i' j' = sqF B x y 0 0) ∧ wr = w) (fun jv _ _ => y + S - (intOf jv).toNat)
  case atStart => exact ⟨0, Nat.zero_le _, rfl, (fun _ _ _ h => absurd h (Nat.not_lt_zero _)), rfl⟩
  case round =>
    obtain ⟨j, hj, rfl, hJ, rfl⟩ := hrel
    by_cases hlt : j < S
    · have q0 : ((y + j : Nat) : Int) < (y : Int) + (S : Int) := by omega
      obtain ⟨Y, hY⟩ : ∃ Y, y + j = Y := ⟨_, rfl⟩
      have HY := Lib.hid hY
      rw [hY] at q0 ⊢
      have hYb : Y ≤ 200 := by omega
      go_wp2_with fail
      go_loopw [10] (fun iv wi => ∃ i : Nat, i ≤ S ∧ iv = .int .i64 ((x + i : Nat) : Int) ∧ Hid (∀ i', i' < i → sqF B x y i' j = sqF B x y 0 0) ∧ wi = wr) (fun iv _ => x + S - (intOf iv).toNat)
      case atStart => exact ⟨0, Nat.zero_le _, rfl, (fun _ h => absurd h (Nat.not_lt_zero _)), rfl⟩
      case round =>
        obtain ⟨i, hi, rfl, hI, rfl⟩ := hrel
        by_cases hil : i < S
        · obtain ⟨X, hX⟩ : ∃ X, x + i = X := ⟨_, rfl⟩
          have q1 : (X : Int) < (x : Int) + (S : Int) := by omega
          have hXb : X ≤ 200 := by omega
          rw [hX]
          have F1 : Hid (B X Y = sqF B x y i j) := by rw [Hid, sqF, hX, HY.out]
          have F2 : Hid (B x y = sqF B x y 0 0) := rfl
          obtain ⟨b1, hb1⟩ : ∃ b1, B X Y = b1 := ⟨_, rfl⟩
          obtain ⟨b2, hb2⟩ : ∃ b2, B x y = b2 := ⟨_, rfl⟩
          have K1 := Lib.hid (BK.out X Y)
          have K2 := Lib.hid (BK.out x y)
          rw [hb1] at K1 F1
          rw [hb2] at K2 F2
          by_cases hbb : b1 = b2
          · have I2 : Hid (∀ i', i' < i + 1 → sqF B x y i' j = sqF B x y 0 0) := fun i' h => by
              rcases Nat.lt_succ_iff_lt_or_eq.1 h with h1 | rfl
              · exact hI.out i' h1
              · rw [← F1.out, ← F2.out, hbb]
            have hne : (!(b1 == b2)) = false := by rw [hbb]; simp
            clear hbb hb1 hb2
            go_wp2_with fail
            refine K1.out.mono ?_
            rintro e w' ⟨rfl, rfl⟩
            go_wp2_with fail
            refine K2.out.mono ?_
            rintro e w' ⟨rfl, rfl⟩
            go_wp2_with fail
            go_roundw
            case rel => exact ⟨i + 1, by omega, by go_num, I2, by trivial⟩
            case measure => simp [intOf]; omega
          · have NS : Hid (smB n (sqF B x y) = false) := smB_no (fun hs => hbb (by
              rw [F1.out, F2.out]
              exact hs i j (by rw [← HS.out]; exact hil) (by rw [← HS.out]; exact hlt)))
            have hne : (!(b1 == b2)) = true := by cases b1 <;> cases b2 <;> first | rfl | exact absurd rfl hbb
            clear hbb hb1 hb2
            go_wp2_with fail
            refine K1.out.mono ?_
            rintro e w' ⟨rfl, rfl⟩
            go_wp2_with fail
            refine K2.out.mono ?_
            rintro e w' ⟨rfl, rfl⟩
            go_wp2_with fail
            go_ret
            exact ⟨by rw [NS.out]; rfl, rfl⟩
        · obtain rfl : i = S := by omega
          have J2 : Hid (∀ i' j', i' < i → j' < j + 1 → sqF B x y i' j' = sqF B x y 0 0) := fun i' j' h1 h2 => by
            rcases Nat.lt_succ_iff_lt_or_eq.1 h2 with h3 | rfl
            · exact hJ.out i' j' h1 h3
            · exact hI.out i' h1
          have q1 : ¬ ((x + i : Nat) : Int) < (x : Int) + (i : Int) := by omega
          go_wp2_with fail
          go_roundw
          case rel => exact ⟨j + 1, by omega, by have := HY.out; go_num, J2, by trivial⟩
          case measure => simp [intOf]; omega
    · obtain rfl : j = S := by omega
      have AS : Hid (smB n (sqF B x y) = true) := smB_yes (fun i' j' h1 h2 => hJ.out i' j' (by rw [HS.out]; exact h1) (by rw [HS.out]; exact h2))
      have q0 : ¬ ((y + j : Nat) : Int) < (y : Int) + (j : Int) := by omega
      go_wp2_with fail
      go_ret
      exact ⟨by rw [AS.out]; rfl, rfl⟩
set_option maxRecDepth 100000 in
set_option maxHeartbeats 1000000 in
theorem textS_leaf (p : Nat) (B : Int → Int → Bool) (w : World)
    (BK : Hid (∀ i j : Int, Calls Try.prog 58 #[.pointer (some ⟨p, 0, none⟩), .int .i64 i, .int .i64 j] w fun e w' => e = .returned (.bool (B i j)) ∧ w = w')) (n S x y : Nat) (hS : S = 2 ^ n) (hS2 : S ≤ 16) (hx : x ≤ 100) (hy : y ≤ 100) (hs : same n (sqF B x y)) :
    Calls Try.prog 56 #[.pointer (some ⟨p, 0, none⟩), .int .i64 x, .int .i64 y, .int .i64 S] w fun e w' => e = .returned (.string ⟨(qtf n (sqF B x y)).txt.toArray⟩) ∧ w = w' := by
  have SM := Lib.hid (sameS_any p B n S x y w hS hS2 hx hy BK)
  have K1 := Lib.hid (BK.out x y)
  have F : Hid (qtf n (sqF B x y) = .leaf (B x y)) := qtf_same hs
  rw [smB_yes hs] at SM
  obtain ⟨β, hβ⟩ : ∃ β, B x y = β := ⟨_, rfl⟩
  rw [hβ] at F K1
  clear hβ hs hS
  cases β
  all_goals
    go_enter Try.func56, Try.ntmps56
    go_wp2_with fail
    refine SM.out.mono ?_
    rintro e w' ⟨rfl, rfl⟩
    go_wp2_with fail
    refine K1.out.mono ?_
    rintro e w' ⟨rfl, rfl⟩
    go_wp2_with fail
    go_ret
    exact ⟨by rw [F.out]; rfl, rfl⟩
set_option maxRecDepth 100000 in
set_option maxHeartbeats 1000000 in
theorem textS_any (p : Nat) (B : Int → Int → Bool) (w : World)
    (BK : Hid (∀ i j : Int, Calls Try.prog 58 #[.pointer (some ⟨p, 0, none⟩), .int .i64 i, .int .i64 j] w fun e w' => e = .returned (.bool (B i j)) ∧ w = w')) : ∀ (n : Nat), n ≤ 4 → ∀ (S x y : Nat), S = 2 ^ n → x + S ≤ 32 → y + S ≤ 32 →
    Calls Try.prog 56 #[.pointer (some ⟨p, 0, none⟩), .int .i64 x, .int .i64 y, .int .i64 S] w fun e w' => e = .returned (.string ⟨(qtf n (sqF B x y)).txt.toArray⟩) ∧ w = w' := by
  intro n
  induction n with
  | zero =>
    intro _ S x y hS hx hy
    have h1 : S = 1 := hS
    exact textS_leaf p B w BK 0 S x y hS (by omega) (by omega) (by omega) (same_zero _)
  | succ n ih =>
    intro hn S x y hS hx hy
    by_cases hs : same (n + 1) (sqF B x y)
    · have h16 : S ≤ 2 ^ 4 := by rw [hS]; exact Nat.pow_le_pow_right (by decide) hn
      exact textS_leaf p B w BK (n + 1) S x y hS (by omega) (by omega) (by omega) hs
    obtain ⟨h, hh⟩ : ∃ h, 2 ^ n = h := ⟨_, rfl⟩
    have hS2 : S = 2 * h := by rw [hS, Nat.pow_succ, ← hh]; omega
    have h8 : h ≤ 8 := by
      rw [← hh]
      exact Nat.le_trans (Nat.pow_le_pow_right (by decide) (show n ≤ 3 by omega)) (by decide)
    have SM := Lib.hid (sameS_any p B (n + 1) S x y w hS (by omega) (by omega) (by omega) BK)
    have IH := Lib.hid (fun x y => ih (by omega) h x y hh.symm)
    have HH := Lib.hid hh
    have e2 : (S : Int).tdiv 2 = (h : Int) := by rw [Int.tdiv_eq_ediv_of_nonneg (by omega)]; omega
    clear ih hS hh
    have hxh2 : x + h ≤ 32 := by omega
    have hyh2 : y + h ≤ 32 := by omega
    have hxS : x + h + h ≤ 32 := by omega
    have hyS : y + h + h ≤ 32 := by omega
    clear hS2
    · have F : Hid (qtf (n + 1) (sqF B x y) = .node (qtf n (sqF B x y)) (qtf n (sqF B (x + h) y)) (qtf n (sqF B x (y + h))) (qtf n (sqF B (x + h) (y + h)))) := by
        rw [Hid, qtf_node hs, HH.out, sqF_right, sqF_down, sqF_both]
      rw [smB_no hs] at SM
      have I1 := Lib.hid (IH.out x y (by omega) (by omega))
      have I2 := Lib.hid (IH.out (x + h) y (by omega) (by omega))
      have I3 := Lib.hid (IH.out x (y + h) (by omega) (by omega))
      have I4 := Lib.hid (IH.out (x + h) (y + h) (by omega) (by omega))
      have L : ∀ g, (qtf n g).txt.length ≤ 1000 := fun g => by
        have h1 := txt_len n _ (qtf_fits n g)
        have h2 : 4 ^ n ≤ 4 ^ 3 := Nat.pow_le_pow_right (by decide) (by omega)
        omega
      have l1 := L (sqF B x y)
      have l2 := L (sqF B (x + h) y)
      have l3 := L (sqF B x (y + h))
      have l4 := L (sqF B (x + h) (y + h))
      generalize qtf n (sqF B x y) = T1 at *
      generalize qtf n (sqF B (x + h) y) = T2 at *
      generalize qtf n (sqF B x (y + h)) = T3 at *
      generalize qtf n (sqF B (x + h) (y + h)) = T4 at *
      have FA : Hid (ByteArray.mk #[40] ++ ByteArray.mk T1.txt.toArray ++ ByteArray.mk T2.txt.toArray ++ ByteArray.mk T3.txt.toArray ++ ByteArray.mk T4.txt.toArray ++ ByteArray.mk #[41] = ⟨(QT.txt (.node T1 T2 T3 T4)).toArray⟩) := by
        rw [Hid]
        apply ByteArray.ext
        simp [QT.txt]
      have s1 : (ByteArray.mk T1.txt.toArray).size = T1.txt.length := by simp [ByteArray.size]
      have s2 : (ByteArray.mk T2.txt.toArray).size = T2.txt.length := by simp [ByteArray.size]
      have s3 : (ByteArray.mk T3.txt.toArray).size = T3.txt.length := by simp [ByteArray.size]
      have s4 : (ByteArray.mk T4.txt.toArray).size = T4.txt.length := by simp [ByteArray.size]
      generalize ByteArray.mk T1.txt.toArray = E1 at *
      generalize ByteArray.mk T2.txt.toArray = E2 at *
      generalize ByteArray.mk T3.txt.toArray = E3 at *
      generalize ByteArray.mk T4.txt.toArray = E4 at *
      have t1 : ¬ 9223372036854775807 < 1 + E1.size := by omega
      have t2 : ¬ 9223372036854775807 < 1 + E1.size + E2.size := by omega
      have t3 : ¬ 9223372036854775807 < 1 + E1.size + E2.size + E3.size := by omega
      have t4 : ¬ 9223372036854775807 < 1 + E1.size + E2.size + E3.size + E4.size := by omega
      have t5 : ¬ 9223372036854775807 < 1 + E1.size + E2.size + E3.size + E4.size + 1 := by omega
      obtain ⟨xh, hxh⟩ : ∃ xh, x + h = xh := ⟨_, rfl⟩
      obtain ⟨yh, hyh⟩ : ∃ yh, y + h = yh := ⟨_, rfl⟩
      have ex : (x : Int) + (h : Int) = (xh : Int) := by omega
      have ey : (y : Int) + (h : Int) = (yh : Int) := by omega
      rw [hxh] at I2 I4
      rw [hyh] at I3 I4
      clear s1 s2 s3 s4 L hxh hyh hs IH
      go_enter Try.func56, Try.ntmps56
      go_wp2_with fail
      refine SM.out.mono ?_
      rintro e w' ⟨rfl, rfl⟩
      go_wp2_with fail
      refine I1.out.mono ?_
      rintro e w' ⟨rfl, rfl⟩
      go_wp2_with fail
      refine I2.out.mono ?_
      rintro e w' ⟨rfl, rfl⟩
      go_wp2_with fail
      refine I3.out.mono ?_
      rintro e w' ⟨rfl, rfl⟩
      go_wp2_with fail
      refine I4.out.mono ?_
      rintro e w' ⟨rfl, rfl⟩
      go_wp2_with fail
      go_ret
      exact ⟨by rw [F.out, ← FA.out]; rfl, rfl⟩
theorem pk_len : ∀ (n : Nat) (T : QT), T.fits n = true → (T.pk n).length ≤ 3 * 4 ^ n - 1
  | 0, .leaf b, _ => by simp [QT.pk]
  | n + 1, .leaf b, _ => by
    have : 1 ≤ 4 ^ (n + 1) := Nat.one_le_pow _ _ (by decide)
    simp [QT.pk]; omega
  | 0, .node .., h => by cases h
  | n + 1, .node a b c d, h => by
    simp only [QT.fits, Bool.and_eq_true] at h
    have h1 := pk_len n a h.1
    have h2 := pk_len n b h.2.1
    have h3 := pk_len n c h.2.2.1
    have h4 := pk_len n d h.2.2.2
    have e : 4 ^ (n + 1) = 4 * 4 ^ n := by rw [Nat.pow_succ]; omega
    have : 1 ≤ 4 ^ n := Nat.one_le_pow _ _ (by decide)
    simp only [QT.pk, List.length_cons, List.length_append]
    omega
set_option maxRecDepth 100000 in
set_option maxHeartbeats 1000000 in
theorem pkS_leaf (p : Nat) (B : Int → Int → Bool) (w : World)
    (BK : Hid (∀ i j : Int, Calls Try.prog 58 #[.pointer (some ⟨p, 0, none⟩), .int .i64 i, .int .i64 j] w fun e w' => e = .returned (.bool (B i j)) ∧ w = w')) (n S x y : Nat) (hS : S = 2 ^ n) (hS2 : S ≤ 16) (hx : x ≤ 100) (hy : y ≤ 100) (hs : same n (sqF B x y)) :
    Calls Try.prog 32 #[.pointer (some ⟨p, 0, none⟩), .int .i64 x, .int .i64 y, .int .i64 S] w fun e w' => e = .returned (.string ⟨((qtf n (sqF B x y)).pk n).toArray⟩) ∧ w = w' := by
  have SM := Lib.hid (sameS_any p B n S x y w hS hS2 hx hy BK)
  have K1 := Lib.hid (BK.out x y)
  have F : Hid (qtf n (sqF B x y) = .leaf (B x y)) := qtf_same hs
  rw [smB_yes hs] at SM
  obtain ⟨β, hβ⟩ : ∃ β, B x y = β := ⟨_, rfl⟩
  rw [hβ] at F K1
  have PKF : Hid (QT.pk n (.leaf β) = if n = 0 then [bit1 β] else [48, bit1 β]) := by cases n <;> rfl
  clear hβ hs
  rcases Nat.eq_zero_or_pos n with hn0 | hn0
  case' inl => have hS1 : ((S : Int) == 1) = true := by rw [hS, hn0]; rfl
  case' inr => have hS1 : ((S : Int) == 1) = false := (by rw [beq_eq_false_iff_ne]; have : 2 ^ 1 ≤ 2 ^ n := Nat.pow_le_pow_right (by decide) hn0; omega)
  case' inl => rw [if_pos hn0] at PKF
  case' inr => rw [if_neg (by omega)] at PKF
  all_goals
    clear hS hn0
    cases β
  all_goals
    go_enter Try.func32, Try.ntmps32
    go_wp2_with fail
    refine SM.out.mono ?_
    rintro e w' ⟨rfl, rfl⟩
    go_wp2_with fail
    refine K1.out.mono ?_
    rintro e w' ⟨rfl, rfl⟩
    go_wp2_with fail
    go_ret
    exact ⟨by rw [F.out, PKF.out]; rfl, rfl⟩
set_option maxRecDepth 100000 in
set_option maxHeartbeats 1000000 in
theorem pkS_any (p : Nat) (B : Int → Int → Bool) (w : World)
    (BK : Hid (∀ i j : Int, Calls Try.prog 58 #[.pointer (some ⟨p, 0, none⟩), .int .i64 i, .int .i64 j] w fun e w' => e = .returned (.bool (B i j)) ∧ w = w')) : ∀ (n : Nat), n ≤ 4 → ∀ (S x y : Nat), S = 2 ^ n → x + S ≤ 32 → y + S ≤ 32 →
    Calls Try.prog 32 #[.pointer (some ⟨p, 0, none⟩), .int .i64 x, .int .i64 y, .int .i64 S] w fun e w' => e = .returned (.string ⟨((qtf n (sqF B x y)).pk n).toArray⟩) ∧ w = w' := by
  intro n
  induction n with
  | zero =>
    intro _ S x y hS hx hy
    have h1 : S = 1 := hS
    exact pkS_leaf p B w BK 0 S x y hS (by omega) (by omega) (by omega) (same_zero _)
  | succ n ih =>
    intro hn S x y hS hx hy
    by_cases hs : same (n + 1) (sqF B x y)
    · have h16 : S ≤ 2 ^ 4 := by rw [hS]; exact Nat.pow_le_pow_right (by decide) hn
      exact pkS_leaf p B w BK (n + 1) S x y hS (by omega) (by omega) (by omega) hs
    obtain ⟨h, hh⟩ : ∃ h, 2 ^ n = h := ⟨_, rfl⟩
    have hS2 : S = 2 * h := by rw [hS, Nat.pow_succ, ← hh]; omega
    have h8 : h ≤ 8 := by
      rw [← hh]
      exact Nat.le_trans (Nat.pow_le_pow_right (by decide) (show n ≤ 3 by omega)) (by decide)
    have SM := Lib.hid (sameS_any p B (n + 1) S x y w hS (by omega) (by omega) (by omega) BK)
    have IH := Lib.hid (fun x y => ih (by omega) h x y hh.symm)
    have HH := Lib.hid hh
    have e2 : (S : Int).tdiv 2 = (h : Int) := by rw [Int.tdiv_eq_ediv_of_nonneg (by omega)]; omega
    clear ih hS hh
    have hxh2 : x + h ≤ 32 := by omega
    have hyh2 : y + h ≤ 32 := by omega
    have hxS : x + h + h ≤ 32 := by omega
    have hyS : y + h + h ≤ 32 := by omega
    clear hS2
    · have F : Hid (qtf (n + 1) (sqF B x y) = .node (qtf n (sqF B x y)) (qtf n (sqF B (x + h) y)) (qtf n (sqF B x (y + h))) (qtf n (sqF B (x + h) (y + h)))) := by
        rw [Hid, qtf_node hs, HH.out, sqF_right, sqF_down, sqF_both]
      rw [smB_no hs] at SM
      have I1 := Lib.hid (IH.out x y (by omega) (by omega))
      have I2 := Lib.hid (IH.out (x + h) y (by omega) (by omega))
      have I3 := Lib.hid (IH.out x (y + h) (by omega) (by omega))
      have I4 := Lib.hid (IH.out (x + h) (y + h) (by omega) (by omega))
      have L : ∀ g, ((qtf n g).pk n).length ≤ 1000 := fun g => by
        have h1 := pk_len n _ (qtf_fits n g)
        have h2 : 4 ^ n ≤ 4 ^ 3 := Nat.pow_le_pow_right (by decide) (by omega)
        omega
      have l1 := L (sqF B x y)
      have l2 := L (sqF B (x + h) y)
      have l3 := L (sqF B x (y + h))
      have l4 := L (sqF B (x + h) (y + h))
      generalize qtf n (sqF B x y) = T1 at *
      generalize qtf n (sqF B (x + h) y) = T2 at *
      generalize qtf n (sqF B x (y + h)) = T3 at *
      generalize qtf n (sqF B (x + h) (y + h)) = T4 at *
      have FA : Hid (ByteArray.mk #[49] ++ ByteArray.mk (QT.pk n T1).toArray ++ ByteArray.mk (QT.pk n T2).toArray ++ ByteArray.mk (QT.pk n T3).toArray ++ ByteArray.mk (QT.pk n T4).toArray = ⟨(QT.pk (n + 1) (.node T1 T2 T3 T4)).toArray⟩) := by
        rw [Hid]
        apply ByteArray.ext
        simp [QT.pk]
      have s1 : (ByteArray.mk (QT.pk n T1).toArray).size = (QT.pk n T1).length := by simp [ByteArray.size]
      have s2 : (ByteArray.mk (QT.pk n T2).toArray).size = (QT.pk n T2).length := by simp [ByteArray.size]
      have s3 : (ByteArray.mk (QT.pk n T3).toArray).size = (QT.pk n T3).length := by simp [ByteArray.size]
      have s4 : (ByteArray.mk (QT.pk n T4).toArray).size = (QT.pk n T4).length := by simp [ByteArray.size]
      generalize ByteArray.mk (QT.pk n T1).toArray = E1 at *
      generalize ByteArray.mk (QT.pk n T2).toArray = E2 at *
      generalize ByteArray.mk (QT.pk n T3).toArray = E3 at *
      generalize ByteArray.mk (QT.pk n T4).toArray = E4 at *
      have t1 : ¬ 9223372036854775807 < 1 + E1.size := by omega
      have t2 : ¬ 9223372036854775807 < 1 + E1.size + E2.size := by omega
      have t3 : ¬ 9223372036854775807 < 1 + E1.size + E2.size + E3.size := by omega
      have t4 : ¬ 9223372036854775807 < 1 + E1.size + E2.size + E3.size + E4.size := by omega
      obtain ⟨xh, hxh⟩ : ∃ xh, x + h = xh := ⟨_, rfl⟩
      obtain ⟨yh, hyh⟩ : ∃ yh, y + h = yh := ⟨_, rfl⟩
      have ex : (x : Int) + (h : Int) = (xh : Int) := by omega
      have ey : (y : Int) + (h : Int) = (yh : Int) := by omega
      rw [hxh] at I2 I4
      rw [hyh] at I3 I4
      clear s1 s2 s3 s4 L hxh hyh hs IH
      go_enter Try.func32, Try.ntmps32
      go_wp2_with fail
      refine SM.out.mono ?_
      rintro e w' ⟨rfl, rfl⟩
      go_wp2_with fail
      refine I1.out.mono ?_
      rintro e w' ⟨rfl, rfl⟩
      go_wp2_with fail
      refine I2.out.mono ?_
      rintro e w' ⟨rfl, rfl⟩
      go_wp2_with fail
      refine I3.out.mono ?_
      rintro e w' ⟨rfl, rfl⟩
      go_wp2_with fail
      refine I4.out.mono ?_
      rintro e w' ⟨rfl, rfl⟩
      go_wp2_with fail
      go_ret
      exact ⟨by rw [F.out, ← FA.out]; rfl, rfl⟩
end Go.Proofs.Ytogefmkplkddoaa
