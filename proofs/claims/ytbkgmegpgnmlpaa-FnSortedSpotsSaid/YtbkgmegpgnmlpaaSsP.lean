/- The law FnSortedSpots: its plain part: parts of a sorted list, and what stands in them. -/
import Derived.Test.YtbkgmegpgnmlpaaSSq
namespace Go.Proofs.Ytbkgmegpgnmlpaa
open Go.RowKit

theorem gp_app_lt {P Q : List (Int × Int)} {k : Nat} (h : k < P.length) : gp (P ++ Q) k = gp P k := by
  simp only [gp, List.getD_eq_getElem?_getD]; rw [List.getElem?_append_left h]
theorem gp_app_last (P : List (Int × Int)) (x : Int × Int) : gp (P ++ [x]) P.length = x := by
  simp [gp]
theorem gp_set_ne {P : List (Int × Int)} {n : Int} {k : Nat} (h : k ≠ P.length - 1) : gp (setL P n) k = gp P k := by
  simp only [gp, setL, List.getD_eq_getElem?_getD]; rw [List.getElem?_set_ne (by omega)]
theorem gp_set_last {P : List (Int × Int)} (n : Int) (h : 0 < P.length) : gp (setL P n) (P.length - 1) = ((gp P (P.length - 1)).1, n) := by
  have : P.length - 1 < P.length := by omega
  simp [gp, setL, this]
theorem prt_len {gap : Int} {X : List Int} {k : Nat} (hk : 0 < k) : (prtTo gap X (k + 1)).length = if gap < X.getD k 0 - X.getD (k - 1) 0 then (prtTo gap X k).length + 1 else (prtTo gap X k).length := by
  rw [prtTo]
  by_cases h : X.getD k 0 - X.getD (k - 1) 0 ≤ gap
  · rw [if_pos ⟨hk, h⟩, if_neg (by omega), setL_len]
  · rw [if_neg (fun q => h q.2), if_pos (by omega)]; simp
/-- The last part ends at the last number, and begins not behind it. -/
theorem prt_last {gap : Int} {X : List Int} (hX : ∀ i, i + 1 < X.length → X.getD i 0 ≤ X.getD (i + 1) 0) : ∀ k, k + 1 ≤ X.length → (gp (prtTo gap X (k + 1)) ((prtTo gap X (k + 1)).length - 1)).2 = X.getD k 0 ∧ (gp (prtTo gap X (k + 1)) ((prtTo gap X (k + 1)).length - 1)).1 ≤ X.getD k 0 := by
  intro k
  induction k with
  | zero => intro _; simp [prtTo, gp]
  | succ k ih =>
    intro hk
    have ih := ih (by omega)
    have hx := hX k (by omega)
    have hp := prtTo_pos gap X (k + 1) (by omega)
    rw [show prtTo gap X (k + 1 + 1) = if 0 < k + 1 ∧ X.getD (k + 1) 0 - X.getD (k + 1 - 1) 0 ≤ gap then setL (prtTo gap X (k + 1)) (X.getD (k + 1) 0) else prtTo gap X (k + 1) ++ [(X.getD (k + 1) 0, X.getD (k + 1) 0)] from rfl]
    split
    · rw [setL_len, gp_set_last _ hp]
      exact ⟨rfl, by have := ih.2; simp only; omega⟩
    · rw [show (prtTo gap X (k + 1) ++ [(X.getD (k + 1) 0, X.getD (k + 1) 0)]).length - 1 = (prtTo gap X (k + 1)).length from by simp, gp_app_last]
      exact ⟨rfl, Int.le_refl _⟩
/-- What later parts keep of earlier ones. -/
theorem prt_keep {gap : Int} {X : List Int} (hX : ∀ i, i + 1 < X.length → X.getD i 0 ≤ X.getD (i + 1) 0) (i : Nat) (hi : 0 < i) : ∀ d, i + d ≤ X.length → (prtTo gap X i).length ≤ (prtTo gap X (i + d)).length ∧ ∀ k, k < (prtTo gap X i).length →
    (gp (prtTo gap X (i + d)) k).1 = (gp (prtTo gap X i) k).1 ∧ (gp (prtTo gap X i) k).2 ≤ (gp (prtTo gap X (i + d)) k).2 ∧ (k + 1 < (prtTo gap X i).length → gp (prtTo gap X (i + d)) k = gp (prtTo gap X i) k) := by
  intro d
  induction d with
  | zero => intro _; exact ⟨Nat.le_refl _, fun k _ => ⟨rfl, Int.le_refl _, fun _ => rfl⟩⟩
  | succ d ih =>
    intro hd
    obtain ⟨i1, i2⟩ := ih (by omega)
    obtain ⟨j, rfl⟩ : ∃ j, i = j + 1 := ⟨i - 1, by omega⟩
    have hl := prt_last (gap := gap) hX (j + d) (by omega)
    have hx := hX (j + d) (by omega)
    have hp := prtTo_pos gap X (j + 1 + d) (by omega)
    rw [show j + d + 1 = j + 1 + d from by omega] at hl hx
    rw [show prtTo gap X (j + 1 + (d + 1)) = if 0 < j + 1 + d ∧ X.getD (j + 1 + d) 0 - X.getD (j + 1 + d - 1) 0 ≤ gap then setL (prtTo gap X (j + 1 + d)) (X.getD (j + 1 + d) 0) else prtTo gap X (j + 1 + d) ++ [(X.getD (j + 1 + d) 0, X.getD (j + 1 + d) 0)] from rfl]
    generalize prtTo gap X (j + 1 + d) = Q at *
    generalize prtTo gap X (j + 1) = R at *
    split
    · refine ⟨by rw [setL_len]; exact i1, fun k hk => ?_⟩
      obtain ⟨a, b, c⟩ := i2 k hk
      by_cases e : k = Q.length - 1
      · rw [e] at a b c ⊢
        rw [gp_set_last _ hp]
        refine ⟨a, by have := hl.1; simp only; omega, fun h => by omega⟩
      · rw [gp_set_ne e]; exact ⟨a, b, c⟩
    · refine ⟨by simp; omega, fun k hk => ?_⟩
      rw [gp_app_lt (by omega)]
      exact i2 k hk
/-- What is known of the parts of a sorted list. -/
structure PrtF (gap : Int) (X : List Int) (P : List (Int × Int)) (kq : Nat → Nat) : Prop where
  le : P.length ≤ X.length
  none : X.length = 0 → P.length = 0
  zero : kq 0 = 0
  one : kq 1 = 0
  inn : ∀ i, i < X.length → kq (i + 1) < P.length ∧ (gp P (kq (i + 1))).1 ≤ X.getD i 0 ∧ X.getD i 0 ≤ (gp P (kq (i + 1))).2
  far : ∀ i, i + 1 < X.length → gap < X.getD (i + 1) 0 - X.getD i 0 → kq (i + 1 + 1) = kq (i + 1) + 1 ∧ (gp P (kq (i + 1))).2 = X.getD i 0
  near : ∀ i, i + 1 < X.length → ¬ gap < X.getD (i + 1) 0 - X.getD i 0 → kq (i + 1 + 1) = kq (i + 1)
  last : 0 < X.length → kq X.length + 1 = P.length ∧ (gp P (kq X.length)).2 = X.getD (X.length - 1) 0
theorem prt_facts (gap : Int) {X : List Int} (hX : ∀ i, i + 1 < X.length → X.getD i 0 ≤ X.getD (i + 1) 0) : PrtF gap X (prtTo gap X X.length) (fun i => (prtTo gap X i).length - 1) := by
  refine ⟨prtTo_le _ _ _, fun h => by have := prtTo_le gap X X.length; omega, rfl, by simp [prtTo], ?_, ?_, ?_, ?_⟩
  · intro i hi
    have hp := prtTo_pos gap X (i + 1) (by omega)
    have hl := prt_last (gap := gap) hX i (by omega)
    obtain ⟨k1, k2⟩ := prt_keep (gap := gap) hX (i + 1) (by omega) (X.length - (i + 1)) (by omega)
    rw [show i + 1 + (X.length - (i + 1)) = X.length from by omega] at k1 k2
    obtain ⟨a, b, -⟩ := k2 ((prtTo gap X (i + 1)).length - 1) (by omega)
    refine ⟨by omega, by rw [a]; exact hl.2, by rw [← hl.1]; exact b⟩
  · intro i hi hg
    have hp := prtTo_pos gap X (i + 1) (by omega)
    have e := prt_len (gap := gap) (X := X) (k := i + 1) (by omega)
    rw [show i + 1 - 1 = i from rfl, if_pos hg] at e
    have hl := prt_last (gap := gap) hX i (by omega)
    obtain ⟨k1, k2⟩ := prt_keep (gap := gap) hX (i + 1 + 1) (by omega) (X.length - (i + 1 + 1)) (by omega)
    rw [show i + 1 + 1 + (X.length - (i + 1 + 1)) = X.length from by omega] at k1 k2
    have k3 := (k2 ((prtTo gap X (i + 1)).length - 1) (by omega)).2.2 (by omega)
    refine ⟨by omega, ?_⟩
    rw [k3, ← hl.1]
    rw [show prtTo gap X (i + 1 + 1) = if 0 < i + 1 ∧ X.getD (i + 1) 0 - X.getD (i + 1 - 1) 0 ≤ gap then setL (prtTo gap X (i + 1)) (X.getD (i + 1) 0) else prtTo gap X (i + 1) ++ [(X.getD (i + 1) 0, X.getD (i + 1) 0)] from rfl, if_neg (fun q => by have := q.2; rw [show i + 1 - 1 = i from rfl] at this; omega), gp_app_lt (by omega)]
  · intro i hi hg
    have e := prt_len (gap := gap) (X := X) (k := i + 1) (by omega)
    rw [show i + 1 - 1 = i from rfl, if_neg hg] at e
    rw [e]
  · intro h
    have hp := prtTo_pos gap X X.length h
    have hl := prt_last (gap := gap) hX (X.length - 1) (by omega)
    rw [show X.length - 1 + 1 = X.length from by omega] at hl
    exact ⟨by omega, hl.1⟩
/-- Sorted spots are the spots, in another order. -/
theorem sSp_perm {c o : Int} (hc0 : 0 ≤ c) (hc3 : c ≤ 3) (h0 : 0 ≤ o) (h4 : o ≤ 4) {L : List (Int × Int)} (hL : ∀ p ∈ L, onB o p = true) : (sSp c o L).Perm L := by
  obtain ⟨D, rfl⟩ : ∃ D : List (SqSp o), D.map (·.1) = L := ⟨L.attach.map fun p => ⟨p.1, hL p.1 p.2⟩, by rw [List.map_map]; exact List.attach_map_subtype_val L⟩
  rw [← sorted_sq hc0 hc3 h0 h4 D]
  exact (List.mergeSort_perm _ _).map _
/-- The sorted indices ascend. -/
theorem sIx_up (c o : Int) (L : List (Int × Int)) : ∀ i, i + 1 < (sIx c o L).length → (sIx c o L).getD i 0 ≤ (sIx c o L).getD (i + 1) 0 := by
  intro i hi
  have h := (List.pairwise_iff_getElem.1 (srtTo_sorted (ixL c o L) ((side o).toNat * (side o).toNat))) i (i + 1) (by show i < (sIx c o L).length; omega) hi (by omega)
  rw [List.getD_eq_getElem?_getD, List.getD_eq_getElem?_getD, List.getElem?_eq_getElem (by omega), List.getElem?_eq_getElem hi]
  exact h
end Go.Proofs.Ytbkgmegpgnmlpaa
