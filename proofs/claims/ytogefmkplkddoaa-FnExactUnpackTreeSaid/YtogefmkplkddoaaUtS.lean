/- Trees of squares: the reference's codes read. -/
import Derived.Test.YtogefmkplkddoaaUtP
import Derived.Test.YtogefmkplkddoaaTrO
namespace Go.Proofs.Ytogefmkplkddoaa
open Go.RowKit

/-- What is left to read of a square of four, behind some of its parts. -/
def otK (s : List UInt8) (n : Nat) : Nat → List UInt8 → Int → List UInt8 × Int
  | 0, acc, z => (acc ++ [41], z)
  | k + 1, acc, z => otK s n k (acc ++ (ot s n z).1) (ot s n z).2
theorem ot_four (s : List UInt8) (n : Nat) (z : Int) (h : ¬ (z < 0 ∨ (s.length : Int) ≤ z)) (hc : s.getD z.toNat 0 = 49) : ot s (n + 1) z = otK s n 4 [40] (z + 1) := by
  rw [ot, if_neg h, if_pos hc]
  simp [otK, List.append_assoc]
def OtRes (n : Nat) (s : ByteArray) (z : Int) (w : World) (e : Ending) (w' : World) : Prop :=
  e = .returned (.tuple #[.string ⟨(ot s.data.toList n z).1.toArray⟩, .int .i64 (ot s.data.toList n z).2]) ∧ w = w'
set_option maxRecDepth 100000 in
set_option maxHeartbeats 2000000 in
theorem otS_step (n S : Nat) (s : ByteArray) (z : Int) (w : World) (hs : s.size ≤ 2000) (hS : S = 2 ^ n) (hn : n ≤ 4) (hz0 : -1 ≤ z) (hz1 : z ≤ s.size)
    (IH : Hid (∀ m h : Nat, n = m + 1 → h = 2 ^ m → ∀ (z' : Int) (w' : World), -1 ≤ z' → z' ≤ s.size → Calls Try.prog 36 #[.string s, .int .i64 z', .int .i64 h] w' (OtRes m s z' w'))) :
    Calls Try.prog 36 #[.string s, .int .i64 z, .int .i64 S] w (OtRes n s z w) := by
  have HLN : Hid (s.data.toList.length = s.size) := rfl
  have NO : Hid ((z < 0 ∨ (s.size : Int) ≤ z) → ot s.data.toList n z = ([], -1)) := fun h => by
    have := HLN.out
    cases n <;> rw [ot, if_pos (by omega)]
  have HS := Lib.hid hS
  clear hS
  by_cases hneg : z < 0
  · have F := Lib.hid (NO.out (.inl hneg))
    go_enter Try.func36, Try.ntmps36
    go_wp2_with fail
    refine bodyPost_ret (v := .tuple #[.string ⟨#[]⟩, .int .i64 (-1)]) (by simp [results, Try.results36, go_sem]) rfl ⟨by rw [F.out], rfl⟩
  by_cases hend : (s.size : Int) ≤ z
  · have F := Lib.hid (NO.out (.inr hend))
    go_enter Try.func36, Try.ntmps36
    go_wp2_with fail
    refine bodyPost_ret (v := .tuple #[.string ⟨#[]⟩, .int .i64 (-1)]) (by simp [results, Try.results36, go_sem]) rfl ⟨by rw [F.out], rfl⟩
  obtain ⟨p, rfl⟩ := Int.eq_ofNat_of_zero_le (show 0 ≤ z by omega)
  have hp : p < s.size := by omega
  have p0 : (0 : Int) ≤ (p : Int) := by omega
  have GD : Hid (∀ (q : Nat) (hq : q < s.size), s.data.toList.getD q 0 = s[q]) := fun q hq => by
    rw [List.getD_eq_getElem?_getD, List.getElem?_eq_getElem (by have := HLN.out; omega)]; rfl
  have NN : Hid (¬ ((p : Int) < 0 ∨ (s.data.toList.length : Int) ≤ (p : Int))) := by have := HLN.out; rw [Hid]; omega
  by_cases hn0 : n = 0
  · subst hn0
    have hS1 : ¬ (1 : Int) < (S : Int) := by have := HS.out; rw [this]; decide
    have F : Hid (ot s.data.toList 0 (p : Int) = (lfS s[p], (p : Int) + 1)) := by
      rw [Hid, ot, if_neg NN.out, Int.toNat_natCast, GD.out p hp]
    by_cases h49 : s[p] = 49
    · have hv : ((s[p].toNat : Nat) : Int) = 49 := by rw [h49]; rfl
      have L : Hid (lfS s[p] = [35]) := by rw [Hid, h49]; rfl
      clear h49
      go_enter Try.func36, Try.ntmps36
      go_wp2_with fail
      refine bodyPost_ret (v := .tuple #[.string ⟨#[35]⟩, .int .i64 ((p : Int) + 1)]) (by simp [results, Try.results36, go_sem]) rfl ⟨by rw [F.out, L.out], rfl⟩
    · have hv : (((s[p].toNat : Nat) : Int) == 49) = false := by
        rw [beq_eq_false_iff_ne]; intro e; exact h49 (UInt8.toNat_inj.1 (by rw [show (49 : UInt8).toNat = 49 from rfl]; omega))
      have L : Hid (lfS s[p] = [46]) := by rw [Hid, lfS, if_neg h49]
      clear h49
      go_enter Try.func36, Try.ntmps36
      go_wp2_with fail
      refine bodyPost_ret (v := .tuple #[.string ⟨#[46]⟩, .int .i64 ((p : Int) + 1)]) (by simp [results, Try.results36, go_sem]) rfl ⟨by rw [F.out, L.out], rfl⟩
  obtain ⟨m, rfl⟩ : ∃ m, n = m + 1 := ⟨n - 1, by omega⟩
  obtain ⟨h, hh⟩ : ∃ h, 2 ^ m = h := ⟨_, rfl⟩
  have hS2 : S = 2 * h := by have := HS.out; rw [Nat.pow_succ, hh] at this; omega
  have hh0 : 1 ≤ h := by rw [← hh]; exact Nat.one_le_pow _ _ (by decide)
  have h16 : h ≤ 16 := by rw [← hh]; exact Nat.le_trans (Nat.pow_le_pow_right (by decide) (show m ≤ 4 by omega)) (by decide)
  have hS1 : (1 : Int) < (S : Int) := by omega
  have e2 : (S : Int).tdiv 2 = (h : Int) := by rw [Int.tdiv_eq_ediv_of_nonneg (by omega)]; omega
  by_cases h49 : s[p] = 49
  case neg =>
    have hv : (((s[p].toNat : Nat) : Int) == 49) = false := by
      rw [beq_eq_false_iff_ne]; intro e; exact h49 (UInt8.toNat_inj.1 (by rw [show (49 : UInt8).toNat = 49 from rfl]; omega))
    have NG : Hid (¬ s.data.toList.getD (p : Int).toNat 0 = 49) := by rw [Hid, Int.toNat_natCast, GD.out p hp]; exact h49
    by_cases hl : s.size ≤ p + 1
    · have q1 : (s.size : Int) ≤ (p : Int) + 1 := by omega
      have F : Hid (ot s.data.toList (m + 1) (p : Int) = ([], -1)) := by
        rw [Hid, ot, if_neg NN.out, if_neg NG.out, if_pos (by have := HLN.out; omega)]
      clear h49 hS2 hh
      go_enter Try.func36, Try.ntmps36
      go_wp2_with fail
      refine bodyPost_ret (v := .tuple #[.string ⟨#[]⟩, .int .i64 (-1)]) (by simp [results, Try.results36, go_sem]) rfl ⟨by rw [F.out], rfl⟩
    have q1 : ¬ (s.size : Int) ≤ (p : Int) + 1 := by omega
    have hp1 : p + 1 < s.size := by omega
    obtain ⟨q, hq⟩ : ∃ q, p + 1 = q := ⟨_, rfl⟩
    have F : Hid (ot s.data.toList (m + 1) (p : Int) = (lfS (s.data.toList.getD q 0), (q : Int) + 1)) := by
      rw [Hid, ot, if_neg NN.out, if_neg NG.out, if_neg (by have := HLN.out; omega), show ((p : Int) + 1).toNat = q by omega, show (p : Int) + 2 = (q : Int) + 1 by omega]
    have eq : (p : Int) + 1 = (q : Int) := by omega
    rw [hq] at hp1
    rw [GD.out q hp1] at F
    rw [eq] at q1
    by_cases k49 : s[q] = 49
    · have hv2 : ((s[q].toNat : Nat) : Int) = 49 := by rw [k49]; rfl
      have L : Hid (lfS s[q] = [35]) := by rw [Hid, k49]; rfl
      clear h49 hS2 hh k49 hq
      go_enter Try.func36, Try.ntmps36
      go_wp2_with fail
      refine bodyPost_ret (v := .tuple #[.string ⟨#[35]⟩, .int .i64 ((q : Int) + 1)]) (by simp [results, Try.results36, go_sem]) rfl ⟨by rw [F.out, L.out], rfl⟩
    · have hv2 : (((s[q].toNat : Nat) : Int) == 49) = false := by
        rw [beq_eq_false_iff_ne]; intro e; exact k49 (UInt8.toNat_inj.1 (by rw [show (49 : UInt8).toNat = 49 from rfl]; omega))
      have L : Hid (lfS s[q] = [46]) := by rw [Hid, lfS, if_neg k49]
      clear h49 hS2 hh k49 hq
      go_enter Try.func36, Try.ntmps36
      go_wp2_with fail
      refine bodyPost_ret (v := .tuple #[.string ⟨#[46]⟩, .int .i64 ((q : Int) + 1)]) (by simp [results, Try.results36, go_sem]) rfl ⟨by rw [F.out, L.out], rfl⟩
  have hv : ((s[p].toNat : Nat) : Int) = 49 := by rw [h49]; rfl
  have U0 : Hid (ot s.data.toList (m + 1) (p : Int) = otK s.data.toList m (4 - 0) [40] ((p : Int) + 1)) := ot_four _ _ _ NN.out (by rw [Int.toNat_natCast, GD.out p hp]; exact h49)
  have I := Lib.hid (fun z' w' a b => IH.out m h rfl hh.symm z' w' a b)
  have OB := Lib.hid (ot_bd s.data.toList m)
  have OL : Hid (∀ z, (ot s.data.toList m z).1.length ≤ 1000) := fun z => by
    have h1 := ot_len s.data.toList m z
    have h2 : 4 ^ m ≤ 4 ^ 4 := Nat.pow_le_pow_right (by decide) (by omega)
    omega
  have OB : Hid (∀ z, -1 ≤ (ot s.data.toList m z).2 ∧ (ot s.data.toList m z).2 ≤ s.size) := fun z => by
    have h1 := OB.out z
    rw [HLN.out] at h1
    exact h1
  clear h49 hS2 hh IH NO GD
  go_enter Try.func36, Try.ntmps36
  go_wp2_with fail
  go_loopw [1, 8, 9] (fun zv ov iv wr => ∃ (k : Nat) (o : List UInt8) (z : Int), k ≤ 4 ∧ iv = .int .i64 k ∧ zv = .int .i64 z ∧ ov = .string ⟨o.toArray⟩ ∧ Hid (ot s.data.toList (m + 1) (p : Int) = otK s.data.toList m (4 - k) o z) ∧ o.length ≤ 1 + k * 1000 ∧ (-1 ≤ z ∧ z ≤ s.size) ∧ wr = w) (fun _ _ iv _ => 4 - (intOf iv).toNat)
  case atStart => exact ⟨0, [40], (p : Int) + 1, by omega, rfl, rfl, rfl, U0, by simp, by omega, rfl⟩
  case round =>
    obtain ⟨k, o, z, hk, rfl, rfl, rfl, hU, ho, hz, rfl⟩ := hrel
    by_cases hlt : k < 4
    · have q0 : (k : Int) < 4 := by omega
      have J := Lib.hid (I.out z wr hz.1 hz.2)
      have U' : Hid (ot s.data.toList (m + 1) (p : Int) = otK s.data.toList m (4 - (k + 1)) (o ++ (ot s.data.toList m z).1) (ot s.data.toList m z).2) := by
        rw [Hid, hU.out, show 4 - k = (4 - (k + 1)) + 1 by omega, otK]
      have l1 := OL.out z
      have bz := OB.out z
      unfold OtRes at J
      generalize (ot s.data.toList m z).1 = a at *
      generalize (ot s.data.toList m z).2 = z2 at *
      have OA : Hid ((⟨o.toArray⟩ : ByteArray) ++ ⟨a.toArray⟩ = ⟨(o ++ a).toArray⟩) := by
        rw [Hid]
        apply ByteArray.ext
        simp
      have s1 : (⟨o.toArray⟩ : ByteArray).size = o.length := by simp [ByteArray.size]
      have s2 : (⟨a.toArray⟩ : ByteArray).size = a.length := by simp [ByteArray.size]
      have s3 : ¬ 9223372036854775807 < (⟨o.toArray⟩ : ByteArray).size + (⟨a.toArray⟩ : ByteArray).size := by omega
      have lo : (o ++ a).length ≤ 1 + (k + 1) * 1000 := by rw [List.length_append]; omega
      clear hU
      go_wp2_with fail
      refine J.out.mono ?_
      rintro e w2 ⟨rfl, rfl⟩
      go_wp2_with fail
      go_roundw
      case rel => exact ⟨k + 1, o ++ a, z2, by omega, by go_num, by rfl, by rw [← OA.out], U', lo, bz, by trivial⟩
      case measure => simp [intOf]; omega
    · obtain rfl : k = 4 := by omega
      have F : Hid (ot s.data.toList (m + 1) (p : Int) = (o ++ [41], z)) := by rw [Hid, hU.out]; rfl
      have OA : Hid ((⟨o.toArray⟩ : ByteArray) ++ ⟨#[41]⟩ = ⟨(o ++ [41]).toArray⟩) := by
        rw [Hid]
        apply ByteArray.ext
        simp
      have s1 : (⟨o.toArray⟩ : ByteArray).size = o.length := by simp [ByteArray.size]
      have s3 : ¬ 9223372036854775807 < (⟨o.toArray⟩ : ByteArray).size + 1 := by omega
      clear hU
      go_wp2_with fail
      refine bodyPost_ret (v := .tuple #[.string ((⟨o.toArray⟩ : ByteArray) ++ ⟨#[41]⟩), .int .i64 z]) (by simp [results, Try.results36, go_sem]) rfl ⟨by rw [F.out, OA.out], rfl⟩
theorem otS_any : ∀ (n S : Nat) (s : ByteArray) (z : Int) (w : World), s.size ≤ 2000 → S = 2 ^ n → n ≤ 4 → -1 ≤ z → z ≤ s.size →
    Calls Try.prog 36 #[.string s, .int .i64 z, .int .i64 S] w (OtRes n s z w) := by
  intro n
  induction n with
  | zero => intro S s z w hs hS hn h0 h1; exact otS_step 0 S s z w hs hS hn h0 h1 (fun m h e => by omega)
  | succ n ih =>
    intro S s z w hs hS hn h0 h1
    exact otS_step (n + 1) S s z w hs hS hn h0 h1 (fun m h e e2 z' w' a b => by
      obtain rfl : m = n := by omega
      exact ih h s z' w' hs e2 (by omega) a b)
end Go.Proofs.Ytogefmkplkddoaa
