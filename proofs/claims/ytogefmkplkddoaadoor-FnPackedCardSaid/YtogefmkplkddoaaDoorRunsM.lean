/- Pictures out of runs: the plain part. -/
import Derived.Test.YtogefmkplkddoaaDoorVisP
import Derived.Test.YtogefmkplkddoaaDoorAlong
namespace Go.Proofs.YtogefmkplkddoaaDoor
open Go.RowKit

def posV (s : Nat) (p : Int × Int) : Nat := (p.2 * s + p.1).toNat
def fillN (vis : List (Int × Int)) (s : Nat) (L : List Bool) (a : Nat) (b : Bool) : Nat → List Bool
  | 0 => L
  | k + 1 => (fillN vis s L a b k).set (posV s (vis.getD (a + k) (0, 0))) b
theorem fillN_length (vis : List (Int × Int)) (s : Nat) (L : List Bool) (a : Nat) (b : Bool) : ∀ k, (fillN vis s L a b k).length = L.length := by
  intro k
  induction k with
  | zero => rfl
  | succ k ih => rw [fillN, List.length_set, ih]
def odd2 (k : Nat) : Bool := decide (k % 2 = 1)
def frS (vis : List (Int × Int)) (s : Nat) (runs : List Int) : Nat → List Bool × Nat
  | 0 => (List.replicate (s * s) false, 0)
  | k + 1 => (fillN vis s (frS vis s runs k).1 (frS vis s runs k).2 (odd2 k) (runs.getD k 0).toNat, (frS vis s runs k).2 + (runs.getD k 0).toNat)
theorem frS_length (vis : List (Int × Int)) (s : Nat) (runs : List Int) : ∀ k, (frS vis s runs k).1.length = s * s := by
  intro k
  induction k with
  | zero => simp [frS]
  | succ k ih => rw [frS, fillN_length, ih]
def frIn (vis : List (Int × Int)) (s : Nat) (runs : List Int) (k : Nat) : Bool := inB (runs.getD k 0) 0 ((s * s : Nat) - (frS vis s runs k).2)
def frOkV (vis : List (Int × Int)) (s : Nat) (runs : List Int) : Bool :=
  (List.range runs.length).all (frIn vis s runs) && decide (colR (alB (frS vis s runs runs.length).1 s s vis) = runs)
def frOk (c o : Int) (runs : List Int) : Bool := curveOkB c o && frOkV (visTo c o (side o).toNat (side o).toNat) (side o).toNat runs
def frPic (c o : Int) (runs : List Int) : List Bool := (frS (visTo c o (side o).toNat (side o).toNat) (side o).toNat runs runs.length).1

/-- What is true of the runs of a list of colours. -/
theorem incL_sum {l : List Int} (h : 0 < l.length) : (incL l).sum = l.sum + 1 := by
  have : ∀ (l : List Int) (i : Nat) (h : i < l.length) (x : Int), (l.set i x).sum = l.sum - l[i] + x := by
    intro l
    induction l with
    | nil => intro i h; simp at h
    | cons a l ih =>
      intro i h x
      cases i with
      | zero => simp; omega
      | succ i => simp only [List.set_cons_succ, List.sum_cons, List.getElem_cons_succ]; rw [ih i (by simpa using h)]; omega
  unfold incL
  rw [this l (l.length - 1) (by omega), List.getD_eq_getElem?_getD, List.getElem?_eq_getElem (by omega)]
  simp only [Option.getD_some]; omega
theorem colTo_sum (bs : List Bool) : ∀ k, k ≤ bs.length → (colTo bs k).1.sum = k := by
  intro k
  induction k with
  | zero => intro _; rw [colTo_zero]; rfl
  | succ k ih =>
    intro h
    have h1 := ih (by omega)
    have h2 := (colTo_bd bs k (by omega)).1
    rw [colTo_succ (by omega)]
    unfold colS
    split
    · simp only; rw [incL_sum h2, h1]; simp
    · simp only; rw [incL_sum (by simp), List.sum_append, h1]; simp
theorem colTo_pos (bs : List Bool) : ∀ k, k ≤ bs.length → ∀ i (h : i < (colTo bs k).1.length), 0 < i → 0 < (colTo bs k).1[i] := by
  intro k
  induction k with
  | zero => intro _; rw [colTo_zero]; intro i h h0; simp at h; omega
  | succ k ih =>
    intro h
    have hb := colTo_bd bs k (by omega)
    have h1 := ih (by omega)
    rw [colTo_succ (by omega)]
    generalize colTo bs k = s at *
    obtain ⟨b1, b2, b3⟩ := hb
    unfold colS
    split
    · intro i hi h0
      simp only [incL_length] at hi
      simp only [incL, List.getElem_set]
      split
      · rename_i e
        rw [List.getD_eq_getElem?_getD, List.getElem?_eq_getElem (by omega)]
        have := b3 (s.1.length - 1) (by omega)
        simp only [Option.getD_some]; omega
      · exact h1 i hi h0
    · intro i hi h0
      simp only [incL_length, List.length_append, List.length_cons, List.length_nil] at hi
      simp only [incL, List.getElem_set, List.length_append, List.length_cons, List.length_nil]
      split
      · rename_i e
        rw [List.getD_eq_getElem?_getD]
        simp
      · rw [List.getElem_append_left (by omega)]
        exact h1 i (by omega) h0
theorem colR_facts (bs : List Bool) : (colR bs).length ≤ bs.length + 1 ∧ (colR bs).sum = bs.length ∧ ∀ i, 0 < i → i < (colR bs).length → (colR bs).getD i 0 ≠ 0 := by
  refine ⟨(colTo_bd bs _ (Nat.le_refl _)).2.1, colTo_sum bs _ (Nat.le_refl _), fun i h0 hi => ?_⟩
  have := colTo_pos bs _ (Nat.le_refl _) i hi h0
  rw [List.getD_eq_getElem?_getD, List.getElem?_eq_getElem hi]
  show (colTo bs bs.length).1[i] ≠ 0
  omega
theorem frS_at (vis : List (Int × Int)) (s : Nat) (runs : List Int) : ∀ k, k ≤ runs.length → (∀ j, j < k → frIn vis s runs j = true) → ((frS vis s runs k).2 : Int) = (runs.take k).sum ∧ (frS vis s runs k).2 ≤ s * s := by
  intro k
  induction k with
  | zero => intro _ _; simp [frS]
  | succ k ih =>
    intro h hj
    have h1 := ih (by omega) (fun j h => hj j (by omega))
    have h2 := hj k (by omega)
    simp only [frIn, inB_iff] at h2
    rw [List.getD_eq_getElem?_getD, List.getElem?_eq_getElem (by omega), Option.getD_some] at h2
    rw [frS, List.take_add_one, List.getElem?_eq_getElem (by omega), List.sum_append, List.getD_eq_getElem?_getD, List.getElem?_eq_getElem (by omega), Option.getD_some]
    simp
    omega
theorem frOkV_facts {vis : List (Int × Int)} {s : Nat} {runs : List Int} (h : frOkV vis s runs = true) (hl : vis.length = s * s) :
    runs.length ≤ s * s + 1 ∧ (∀ k, k < runs.length → frIn vis s runs k = true) ∧ (∀ k, 0 < k → k < runs.length → runs.getD k 0 ≠ 0) ∧ (frS vis s runs runs.length).2 = s * s ∧ colR (alB (frS vis s runs runs.length).1 s s vis) = runs := by
  simp only [frOkV, Bool.and_eq_true, List.all_eq_true, List.mem_range, decide_eq_true_eq] at h
  obtain ⟨h1, h2⟩ := h
  have f := colR_facts (alB (frS vis s runs runs.length).1 s s vis)
  have e : (alB (frS vis s runs runs.length).1 s s vis).length = s * s := by simp [alB, hl]
  rw [h2, e] at f
  refine ⟨f.1, h1, f.2.2, ?_, h2⟩
  have := (frS_at vis s runs runs.length (Nat.le_refl _) h1).1
  rw [List.take_length, f.2.1] at this
  omega
theorem frOkV_no_in {vis : List (Int × Int)} {s : Nat} {runs : List Int} {k : Nat} (hk : k < runs.length) (h : frIn vis s runs k = false) (hl : vis.length = s * s) : frOkV vis s runs = false := by
  cases e : frOkV vis s runs
  · rfl
  · have := (frOkV_facts e hl).2.1 k hk
    rw [h] at this; cases this
theorem frOkV_no_zero {vis : List (Int × Int)} {s : Nat} {runs : List Int} {k : Nat} (h0 : 0 < k) (hk : k < runs.length) (h : runs.getD k 0 = 0) (hl : vis.length = s * s) : frOkV vis s runs = false := by
  cases e : frOkV vis s runs
  · rfl
  · exact absurd h ((frOkV_facts e hl).2.2.1 k h0 hk)
theorem frOkV_no_len {vis : List (Int × Int)} {s : Nat} {runs : List Int} (h : s * s + 1 < runs.length) (hl : vis.length = s * s) : frOkV vis s runs = false := by
  cases e : frOkV vis s runs
  · rfl
  · have := (frOkV_facts e hl).1; omega
theorem frOkV_no_at {vis : List (Int × Int)} {s : Nat} {runs : List Int} (h : ¬ (frS vis s runs runs.length).2 = s * s) (hl : vis.length = s * s) : frOkV vis s runs = false := by
  cases e : frOkV vis s runs
  · rfl
  · exact absurd (frOkV_facts e hl).2.2.2.1 h
theorem frOkV_end {vis : List (Int × Int)} {s : Nat} {runs : List Int} (h : ∀ k, k < runs.length → frIn vis s runs k = true) : frOkV vis s runs = decide (colR (alB (frS vis s runs runs.length).1 s s vis) = runs) := by
  have : (List.range runs.length).all (frIn vis s runs) = true := by
    rw [List.all_eq_true]; intro x hx; exact h x (List.mem_range.1 hx)
  rw [frOkV, this, Bool.true_and]
end Go.Proofs.YtogefmkplkddoaaDoor
