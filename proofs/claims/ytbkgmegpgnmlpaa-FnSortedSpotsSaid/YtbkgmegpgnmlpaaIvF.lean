/- What holds of the intervals of a box. Plain. -/
import Derived.Test.YtbkgmegpgnmlpaaIvl
namespace Go.Proofs.Ytbkgmegpgnmlpaa
open Go.RowKit

/-- The intervals P of a box among the first n spots. -/
structure IvFacts (V : List (Int × Int)) (f t : Int × Int) (n : Nat) (P : List (Int × Int)) : Prop where
  ends : ∀ i, i < P.length → 0 ≤ (gp P i).1 ∧ (gp P i).1 ≤ (gp P i).2 ∧ (gp P i).2 < n
  gaps : ∀ i, i + 1 < P.length → (gp P i).2 + 1 < (gp P (i + 1)).1
  iff : ∀ j : Nat, j < n → (inBx f t (gp V j) = true ↔ ∃ i, i < P.length ∧ (gp P i).1 ≤ j ∧ (j : Int) ≤ (gp P i).2)
theorem gp_snoc_lt {P : List (Int × Int)} {p : Int × Int} {i : Nat} (h : i < P.length) : gp (P ++ [p]) i = gp P i := by
  simp only [gp, List.getD_eq_getElem?_getD]; rw [List.getElem?_append_left h]
theorem gp_snoc_eq (P : List (Int × Int)) (p : Int × Int) : gp (P ++ [p]) P.length = p := by
  simp [gp, List.getD_eq_getElem?_getD]
theorem gp_setL {P : List (Int × Int)} (_hP : 0 < P.length) (n : Int) (i : Nat) (h : i < P.length) : gp (setL P n) i = if i = P.length - 1 then ((gp P i).1, n) else gp P i := by
  unfold setL
  simp only [gp, List.getD_eq_getElem?_getD]
  rw [List.getElem?_set]
  by_cases e : P.length - 1 = i
  · rw [if_pos e, if_pos e.symm, if_pos (by omega)]; subst e; simp only [Option.getD_some]
  · rw [if_neg e, if_neg (fun h => e h.symm)]
theorem iv_last {V : List (Int × Int)} {f t : Int × Int} {n : Nat} {P : List (Int × Int)} (h : IvFacts V f t (n + 1) P) (hb : inBx f t (gp V n) = true) : 0 < P.length ∧ (gp P (P.length - 1)).2 = n := by
  obtain ⟨i, hi, h1, h2⟩ := (h.iff n (by omega)).1 hb
  have mono : ∀ d, i + d < P.length → (gp P i).2 ≤ (gp P (i + d)).2 := by
    intro d
    induction d with
    | zero => intro _; exact Int.le_refl _
    | succ d ih =>
      intro hd
      have := ih (by omega)
      have g := h.gaps (i + d) (by omega)
      have e := (h.ends (i + (d + 1)) hd).2.1
      rw [show i + d + 1 = i + (d + 1) from by omega] at g
      omega
  have := mono (P.length - 1 - i) (by omega)
  rw [show i + (P.length - 1 - i) = P.length - 1 from by omega] at this
  have := (h.ends (P.length - 1) (by omega)).2.2
  exact ⟨by omega, by omega⟩
theorem spTo_facts (V : List (Int × Int)) (f t : Int × Int) : ∀ n, IvFacts V f t n (spTo V f t n) := by
  intro n
  induction n with
  | zero => exact ⟨fun i h => by simp [spTo] at h, fun i h => by simp [spTo] at h, fun j h => absurd h (Nat.not_lt_zero _)⟩
  | succ n ih =>
    rw [spTo]
    cases hb : inBx f t (gp V n)
    · rw [if_neg (by simp)]
      refine ⟨fun i h => ?_, ih.gaps, fun j hj => ?_⟩
      · have := ih.ends i h; omega
      · by_cases e : j = n
        · subst e
          rw [hb]
          constructor
          · intro h; cases h
          · rintro ⟨i, hi, h1, h2⟩
            have := (ih.ends i hi).2.2
            omega
        · exact ih.iff j (by omega)
    · rw [if_pos rfl]
      by_cases hp : 0 < n ∧ inBx f t (gp V (n - 1)) = true
      · rw [if_pos (by simpa using hp)]
        obtain ⟨m, rfl⟩ : ∃ m, n = m + 1 := ⟨n - 1, by omega⟩
        obtain ⟨l0, l1⟩ := iv_last ih (by simpa using hp.2)
        generalize spTo V f t (m + 1) = P at *
        refine ⟨fun i h => ?_, fun i h => ?_, fun j hj => ?_⟩
        · rw [setL_len] at h
          rw [gp_setL l0 _ i h]
          have := ih.ends i h
          split
          · rename_i e; subst e; simp only; omega
          · omega
        · rw [setL_len] at h
          rw [gp_setL l0 _ i (by omega), gp_setL l0 _ (i + 1) h, if_neg (by omega)]
          have := ih.gaps i h
          split <;> simpa using this
        · constructor
          · intro hj2
            by_cases e : j = m + 1
            · refine ⟨P.length - 1, by rw [setL_len]; omega, ?_⟩
              rw [gp_setL l0 _ _ (by omega), if_pos rfl]
              have := ih.ends (P.length - 1) (by omega)
              simp only
              omega
            · obtain ⟨i, hi, h1, h2⟩ := (ih.iff j (by omega)).1 hj2
              refine ⟨i, by rw [setL_len]; exact hi, ?_⟩
              rw [gp_setL l0 _ i hi]
              split
              · simp only; omega
              · exact ⟨h1, h2⟩
          · rintro ⟨i, hi, h1, h2⟩
            rw [setL_len] at hi
            rw [gp_setL l0 _ i hi] at h1 h2
            by_cases e : j = m + 1
            · subst e; exact hb
            · refine (ih.iff j (by omega)).2 ⟨i, hi, ?_⟩
              split at h1
              · rename_i e2
                rw [if_pos e2] at h2
                simp only at h1 h2
                rw [e2] at h1 ⊢
                omega
              · rename_i e2
                rw [if_neg e2] at h2
                exact ⟨h1, h2⟩
      · rw [if_neg (by simpa using hp)]
        have hlast : ∀ i, i < (spTo V f t n).length → (gp (spTo V f t n) i).2 + 1 < n := by
          intro i hi
          have h1 := ih.ends i hi
          by_cases e : (gp (spTo V f t n) i).2 = (n : Int) - 1
          · exfalso
            refine hp ⟨by omega, (ih.iff (n - 1) (by omega)).2 ⟨i, hi, by omega, by omega⟩⟩
          · omega
        generalize spTo V f t n = P at *
        refine ⟨fun i h => ?_, fun i h => ?_, fun j hj => ?_⟩
        · rw [List.length_append, List.length_singleton] at h
          by_cases e : i = P.length
          · subst e; rw [gp_snoc_eq]; simp only; omega
          · rw [gp_snoc_lt (by omega)]; have := ih.ends i (by omega); omega
        · rw [List.length_append, List.length_singleton] at h
          by_cases e : i + 1 = P.length
          · rw [gp_snoc_lt (by omega), e, gp_snoc_eq]; have := hlast i (by omega); simp only; omega
          · rw [gp_snoc_lt (by omega), gp_snoc_lt (by omega)]; exact ih.gaps i (by omega)
        · constructor
          · intro hj2
            by_cases e : j = n
            · refine ⟨P.length, by simp, ?_⟩
              rw [gp_snoc_eq]; simp only; omega
            · obtain ⟨i, hi, h1, h2⟩ := (ih.iff j (by omega)).1 hj2
              exact ⟨i, by simp; omega, by rw [gp_snoc_lt hi]; exact ⟨h1, h2⟩⟩
          · rintro ⟨i, hi, h1, h2⟩
            rw [List.length_append, List.length_singleton] at hi
            by_cases e : i = P.length
            · subst e
              rw [gp_snoc_eq] at h1 h2
              simp only at h1 h2
              have : j = n := by omega
              subst this; exact hb
            · rw [gp_snoc_lt (by omega)] at h1 h2
              have := ih.ends i (by omega)
              exact (ih.iff j (by omega)).2 ⟨i, by omega, h1, h2⟩
theorem iv_mono {V : List (Int × Int)} {f t : Int × Int} {n : Nat} {P : List (Int × Int)} (h : IvFacts V f t n P) : ∀ d i, i + d + 1 < P.length → (gp P i).2 < (gp P (i + d + 1)).1 := by
  intro d
  induction d with
  | zero => intro i hi; have := h.gaps i hi; show _ < (gp P (i + 1)).1; omega
  | succ d ih =>
    intro i hi
    have h1 := ih i (by omega)
    have h2 := h.gaps (i + d + 1) (by omega)
    have h3 := (h.ends (i + d + 1) (by omega)).2.1
    rw [show i + (d + 1) + 1 = i + d + 1 + 1 from by omega]
    omega
/-- The first part that does not end before n tells whether n is in the box. -/
theorem iv_in {V : List (Int × Int)} {f t : Int × Int} {N : Nat} {P : List (Int × Int)} (h : IvFacts V f t N P) {n k : Nat} (hn : n < N) (hk : ∀ i, i < k → (gp P i).2 < n) (hke : k = P.length ∨ k < P.length ∧ (n : Int) ≤ (gp P k).2) :
    inBx f t (gp V n) = (decide (k < P.length) && decide ((gp P k).1 ≤ n)) := by
  rw [Bool.eq_iff_iff, h.iff n hn, Bool.and_eq_true, decide_eq_true_eq, decide_eq_true_eq]
  constructor
  · rintro ⟨i, hi, h1, h2⟩
    have : ¬ i < k := fun hlt => by have := hk i hlt; omega
    rcases hke with rfl | ⟨hk1, hk2⟩
    · omega
    · rcases Nat.lt_or_ge k i with hki | hki
      · have := iv_mono h (i - k - 1) k (by omega)
        rw [show k + (i - k - 1) + 1 = i from by omega] at this
        omega
      · obtain rfl : i = k := by omega
        exact ⟨hi, h1⟩
  · rintro ⟨h1, h2⟩
    rcases hke with rfl | ⟨hk1, hk2⟩
    · omega
    · exact ⟨k, h1, h2, hk2⟩
theorem nxS_spec (V : List (Int × Int)) (f t : Int × Int) : ∀ m i, ((nxS V f t m i).2 = true → ∃ r : Nat, (nxS V f t m i).1 = r ∧ i ≤ r ∧ r < i + m ∧ inBx f t (gp V r) = true ∧ ∀ j, i ≤ j → j < r → inBx f t (gp V j) = false) ∧ ((nxS V f t m i).2 = false → (nxS V f t m i).1 = 0 ∧ ∀ j, i ≤ j → j < i + m → inBx f t (gp V j) = false) := by
  intro m
  induction m with
  | zero => intro i; exact ⟨fun h => by simp [nxS] at h, fun _ => ⟨rfl, fun j h1 h2 => by omega⟩⟩
  | succ m ih =>
    intro i
    rw [nxS]
    cases hb : inBx f t (gp V i)
    · rw [if_neg (by simp)]
      obtain ⟨h1, h2⟩ := ih (i + 1)
      refine ⟨fun h => ?_, fun h => ?_⟩
      · obtain ⟨r, e, a, b, c, d⟩ := h1 h
        refine ⟨r, e, by omega, by omega, c, fun j hj1 hj2 => ?_⟩
        by_cases e2 : j = i
        · rw [e2]; exact hb
        · exact d j (by omega) hj2
      · obtain ⟨e, d⟩ := h2 h
        refine ⟨e, fun j hj1 hj2 => ?_⟩
        by_cases e2 : j = i
        · rw [e2]; exact hb
        · exact d j (by omega) (by omega)
    · rw [if_pos rfl]
      exact ⟨fun _ => ⟨i, rfl, Nat.le_refl _, by omega, hb, fun j h1 h2 => by omega⟩, fun h => by simp at h⟩
section
variable {c o : Int} (hc0 : 0 ≤ c) (hc3 : c ≤ 3) (h0 : 0 ≤ o) (h4 : o ≤ 4) {s : Nat} (hs : side o = s)
include hc0 hc3 h0 h4 hs
theorem sp_one {x y : Nat} (hx : x < s) (hy : y < s) : (spTo (visTo c o s s) ((x : Int), (y : Int)) ((x : Int) + 1 - 1, (y : Int) + 1 - 1) (s * s)).length = 1 := by
  have hB : boxB o ((x : Int), (y : Int)) ((x : Int) + 1 - 1, (y : Int) + 1 - 1) = true := by
    rw [boxB_iff, hs]; simp only; omega
  have e := bx_sorted hc0 hc3 hs hB (W := 1) (H := 1) (by simp only; omega) (by simp only; omega)
  have hl : (ivN (visTo c o s s) ((x : Int), (y : Int)) ((x : Int) + 1 - 1, (y : Int) + 1 - 1) (s * s)).length = 1 := by
    rw [← e, List.length_mergeSort, bxTo_len]
  rw [spTo_eq, hl]
  simp [prtTo]
theorem sp_all : ∀ n, n ≤ s * s → 0 < n → spTo (visTo c o s s) ((0 : Nat), (0 : Nat)) (((0 : Nat) : Int) + s - 1, ((0 : Nat) : Int) + s - 1) n = [((0 : Int), (n : Int) - 1)] := by
  intro n
  induction n with
  | zero => intro _ h; omega
  | succ n ih =>
    intro hn _
    have hin : ∀ j, j < s * s → inBx ((0 : Nat), (0 : Nat)) (((0 : Nat) : Int) + s - 1, ((0 : Nat) : Int) + s - 1) (gp (visTo c o s s) j) = true := by
      intro j hj
      have hj' : j < (visTo c o s s).length := by rw [visTo_length]; exact hj
      have va := vis_at c o hc0 hc3 h0 h4 s hs j hj'
      have eg : gp (visTo c o s s) j = (visTo c o s s)[j] := by rw [gp, List.getD_eq_getElem?_getD, List.getElem?_eq_getElem hj']; rfl
      rw [eg, inBx_iff]
      simp only
      omega
    rw [spTo, if_pos (hin n (by omega))]
    rcases Nat.eq_zero_or_pos n with h | h
    · subst h; simp [spTo]
    · rw [if_pos (by rw [hin (n - 1) (by omega)]; simp [h]), ih (by omega) h]
      simp [setL, gp]
theorem isz_one : isz c o 1 1 = (s : Int) * s ∧ iszOk c o 1 1 = true := by
  have s1 := side_pos h0 h4
  rw [hs] at s1
  have ok : iszOk c o 1 1 = true := by
    simp only [iszOk, Bool.and_eq_true, curveOk_iff, inB_iff, hs]; omega
  refine ⟨?_, ok⟩
  rw [isz, if_pos ok, hs]
  have e0 : (s : Int).toNat = s := Int.toNat_natCast s
  have e1 : s - (1 : Int).toNat + 1 = s := by simp; omega
  rw [e0, e1]
  have hV := visTo_length c o s s
  have row : ∀ y, y < s → ∀ x, x ≤ s → iszRow (visTo c o s s) (1 : Int).toNat (1 : Int).toNat y x = x := by
    intro y hy x
    induction x with
    | zero => intro _; rfl
    | succ x ih =>
      intro hx
      rw [iszRow, ih (by omega), hV]
      have := sp_one hc0 hc3 h0 h4 hs (show x < s by omega) hy
      show x + (spTo (visTo c o s s) ((x : Int), (y : Int)) ((x : Int) + 1 - 1, (y : Int) + 1 - 1) (s * s)).length = x + 1
      rw [this]
  have tot : ∀ y, y ≤ s → iszTo (visTo c o s s) (1 : Int).toNat (1 : Int).toNat s y = y * s := by
    intro y
    induction y with
    | zero => intro _; simp [iszTo]
    | succ y ih => intro hy; rw [iszTo, ih (by omega), row y (by omega) s (Nat.le_refl _), Nat.succ_mul]
  rw [tot s (Nat.le_refl _), Int.natCast_mul]
theorem isz_whole : isz c o s s = 1 ∧ iszOk c o s s = true := by
  have s1 := side_pos h0 h4
  rw [hs] at s1
  have ok : iszOk c o s s = true := by
    simp only [iszOk, Bool.and_eq_true, curveOk_iff, inB_iff, hs]; omega
  refine ⟨?_, ok⟩
  rw [isz, if_pos ok, hs]
  have e0 : (s : Int).toNat = s := Int.toNat_natCast s
  rw [e0, Nat.sub_self]
  have hV := visTo_length c o s s
  have hss : 0 < s * s := Nat.mul_pos (by omega) (by omega)
  show ((iszTo (visTo c o s s) s s 1 1 : Nat) : Int) = 1
  rw [iszTo, iszTo, iszRow, iszRow, hV]
  have := sp_all hc0 hc3 h0 h4 hs (s * s) (Nat.le_refl _) hss
  rw [this]
  rfl
end
end Go.Proofs.Ytbkgmegpgnmlpaa
