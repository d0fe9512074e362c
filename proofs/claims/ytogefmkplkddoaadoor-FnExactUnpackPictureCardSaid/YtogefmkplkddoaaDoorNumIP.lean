/- Numbers read from their codes: what the program's way of reading rests on. Plain. -/
import Derived.Test.YtogefmkplkddoaaDoorNum
namespace Go.Proofs.YtogefmkplkddoaaDoor
open Go.RowKit

/-- The first 1 of a text. -/
theorem idx_spec : ∀ (l : List UInt8), (Lib.indexByte l 49 = -1 ∧ ∀ b ∈ l, b ≠ 49) ∨ ∃ k : Nat, Lib.indexByte l 49 = k ∧ k < l.length ∧ l.getD k 0 = 49 ∧ ∀ j, j < k → l.getD j 0 ≠ 49
  | [] => .inl ⟨rfl, by simp⟩
  | a :: t => by
    by_cases h : a = 49
    · exact .inr ⟨0, by simp [Lib.indexByte, h], by simp, by simp [h], fun j hj => absurd hj (Nat.not_lt_zero _)⟩
    · have hb : (a == 49) = false := by simpa using h
      rcases idx_spec t with ⟨h1, h2⟩ | ⟨k, h1, h2, h3, h4⟩
      · left
        refine ⟨by simp [Lib.indexByte, hb, h1], fun b hb => ?_⟩
        rcases List.mem_cons.1 hb with e | e
        · rw [e]; exact h
        · exact h2 b e
      · right
        refine ⟨k + 1, ?_, by simp; omega, by simpa using h3, fun j hj => ?_⟩
        · have : (Lib.indexByte t 49 == -1) = false := by rw [h1]; rw [beq_eq_false_iff_ne]; omega
          simp only [Lib.indexByte, hb, this]
          rw [h1]; simp
        · match j with
          | 0 => simpa using h
          | j + 1 => simpa using h4 j (by omega)
theorem zrs_le (l : List UInt8) : zrs l ≤ l.length := (List.takeWhile_sublist _).length_le
theorem zrs_lt (l : List UInt8) : ∀ j, j < zrs l → l.getD j 0 = 48 := by
  induction l with
  | nil => intro j h; simp [zrs] at h
  | cons a t ih =>
    intro j h
    unfold zrs at h
    rw [List.takeWhile_cons] at h
    by_cases ha : a = 48
    · rw [if_pos (by simp [ha])] at h
      match j with
      | 0 => exact ha
      | j + 1 => exact ih j (by simp at h; exact h)
    · rw [if_neg (by simpa using ha)] at h; simp at h
theorem zrs_at (l : List UInt8) : zrs l < l.length → l.getD (zrs l) 0 ≠ 48 := by
  induction l with
  | nil => intro h; simp [zrs] at h
  | cons a t ih =>
    intro h
    unfold zrs at h ⊢
    rw [List.takeWhile_cons] at h ⊢
    by_cases ha : a = 48
    · rw [if_pos (by simp [ha])] at h ⊢
      simp at h ⊢
      exact ih h
    · rw [if_neg (by simpa using ha)] at h ⊢
      simpa using ha
/-- Where the first that is no 0 is no 1, there is no number. -/
theorem step_bad {l : List UInt8} (h : zrs l < l.length → l.getD (zrs l) 0 ≠ 49) : nmStep l = none := by
  unfold nmStep
  split
  · rfl
  · rename_i hc
    rw [if_neg]
    intro hh
    have hz : zrs l < l.length := by omega
    have h1 := (all_take (bs := l.drop (zrs l)) (m := zrs l + 1) (by rw [List.length_drop]; omega)).1 hh.1 0 (by omega)
    have e : (l.drop (zrs l)).getD 0 0 = l.getD (zrs l) 0 := by simp only [List.getD_eq_getElem?_getD, List.getElem?_drop, Nat.add_zero]
    rw [e] at h1
    rcases h1 with h1 | h1
    · exact zrs_at l hz h1
    · exact h hz h1
theorem step_no1 {l : List UInt8} (h : ∀ b ∈ l, b ≠ 49) : nmStep l = none := step_bad (fun hz => by
  rw [List.getD_eq_getElem?_getD, List.getElem?_eq_getElem hz]
  exact h _ (List.getElem_mem hz))
/-- With a first 1 at k: either all ahead is 0, or there is no number. -/
theorem zrs_or {l : List UInt8} {k : Nat} (_hk : k < l.length) (h1 : l.getD k 0 = 49) (h2 : ∀ j, j < k → l.getD j 0 ≠ 49) : zrs l = k ∨ nmStep l = none := by
  have hle : zrs l ≤ k := by
    by_cases h : zrs l ≤ k
    · exact h
    · have := zrs_lt l k (by omega)
      rw [h1] at this; cases this
  by_cases e : zrs l = k
  · exact .inl e
  · exact .inr (step_bad (fun _ => h2 _ (by omega)))
theorem step_far {l : List UInt8} {k : Nat} (hk : k < l.length) (h1 : l.getD k 0 = 49) (h2 : ∀ j, j < k → l.getD j 0 ≠ 49) (h : 29 < k ∨ l.length < 2 * k + 1) : nmStep l = none := by
  rcases zrs_or hk h1 h2 with e | e
  · unfold nmStep; rw [if_pos (by rw [e]; exact h)]
  · exact e
theorem step_odd {l : List UInt8} {k : Nat} (hk : k < l.length) (h1 : l.getD k 0 = 49) (h2 : ∀ j, j < k → l.getD j 0 ≠ 49) (hl : 2 * k + 1 ≤ l.length) (h : ¬ bitL (l.take (2 * k + 1))) : nmStep l = none := by
  rcases zrs_or hk h1 h2 with e | e
  · unfold nmStep
    split
    · rfl
    · rw [if_neg]
      intro hh
      have h3 := (all_take (bs := l.drop (zrs l)) (m := zrs l + 1) (by rw [List.length_drop]; omega)).1 hh.1
      refine h ?_
      have h4 := (all_take (bs := l) (m := 2 * k + 1) hl).2 (fun a ha => by
        by_cases hz : a < zrs l
        · exact .inl (zrs_lt l a hz)
        · have := h3 (a - zrs l) (by omega)
          simp only [List.getD_eq_getElem?_getD, List.getElem?_drop] at this
          rw [show zrs l + (a - zrs l) = a from by omega] at this
          simpa only [List.getD_eq_getElem?_getD] using this)
      exact bits_iff.1 h4
  · exact e
/-- A first code that is right. -/
theorem step_good {l : List UInt8} {k : Nat} (hk : k < l.length) (h1 : l.getD k 0 = 49) (h2 : ∀ j, j < k → l.getD j 0 ≠ 49) (hl : 2 * k + 1 ≤ l.length) (hb : bitL (l.take (2 * k + 1))) :
    (k ≤ 29 → nmStep l = if vTo (l.drop k) (k + 1) ≤ 1000000000 then some (vTo (l.drop k) (k + 1), l.drop (2 * k + 1)) else none) ∧ 2 ^ k ≤ vTo (l.drop k) (k + 1) ∧ vTo (l.drop k) (k + 1) < 2 ^ (k + 1) ∧ codeL (vTo (l.drop k) (k + 1)) = l.take (2 * k + 1) := by
  have hbit := (all_take (bs := l) (m := 2 * k + 1) hl).1 (bits_iff.2 hb)
  have hz : zrs l = k := zrs_is (by omega) (fun j hj => by
    rcases hbit j (by omega) with h | h
    · exact h
    · exact absurd h (h2 j hj)) (fun _ => by rw [h1]; decide)
  have hd : ∀ a, (l.drop k).getD a 0 = l.getD (k + a) 0 := fun a => by simp only [List.getD_eq_getElem?_getD, List.getElem?_drop]
  have h0 : (l.drop k).getD 0 0 = 49 := by rw [hd]; exact h1
  have hbd : ∀ a, a ≤ k → (l.drop k).getD a 0 = 48 ∨ (l.drop k).getD a 0 = 49 := fun a ha => by rw [hd]; exact hbit (k + a) (by omega)
  have hlen : (l.drop k).length = l.length - k := List.length_drop
  have hlo := vTo_lo (l.drop k) (by rw [h0]; rfl) k
  have hbins := bins_vTo (l.drop k) h0 k (by rw [hlen]; omega) hbd
  have hhi : ∀ m, m ≤ k + 1 → vTo (l.drop k) m < 2 ^ m := by
    intro m
    induction m with
    | zero => intro _; exact Nat.one_pos
    | succ m ih =>
      intro hm
      have := ih (by omega)
      have hx : ((l.drop k).getD m 0).toNat - 48 ≤ 1 := by rcases hbd m (by omega) with h | h <;> rw [h] <;> decide
      rw [vTo, Nat.pow_succ]; omega
  refine ⟨fun h29 => ?_, hlo, hhi _ (Nat.le_refl _), ?_⟩
  · have hall : (((l.drop k).take (k + 1)).all fun b => b == 48 || b == 49) = true := (all_take (by rw [hlen]; omega)).2 (fun a ha => hbd a (by omega))
    unfold nmStep
    rw [if_neg (by rw [hz]; omega), hz, hall]
    simp
  · rw [codeL, hbins, List.length_take, hlen, show min (k + 1) (l.length - k) - 1 = k from by omega]
    have e : l.take k = zerosL k := by
      apply List.ext_getElem
      · rw [List.length_take, zerosL_length]; omega
      · intro j a1 a2
        rw [List.length_take] at a1
        have := hbit j (by omega)
        rw [List.getElem_take]
        have e2 : l.getD j 0 = l[j]'(by omega) := by rw [List.getD_eq_getElem?_getD, List.getElem?_eq_getElem (by omega)]; rfl
        have h3 := zrs_lt l j (by rw [hz]; omega)
        rw [e2] at h3
        rw [h3]
        simp [zerosL]
    rw [← e, show 2 * k + 1 = k + (k + 1) from by omega]
    exact List.take_add.symm
end Go.Proofs.YtogefmkplkddoaaDoor
