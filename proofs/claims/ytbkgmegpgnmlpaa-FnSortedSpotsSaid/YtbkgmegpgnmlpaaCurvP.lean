/- What the law FnCurves rests on: facts on the curves, reckoned. -/
import Derived.Test.YtbkgmegpgnmlpaaLong
namespace Go.Proofs.Ytbkgmegpgnmlpaa
open Go.RowKit

def okFrom (c o : Int) (s : Nat) : Nat → List (Int × Int) → Bool
  | _, [] => true
  | n, p :: r => decide (0 ≤ p.1) && decide (p.1 < s) && decide (0 ≤ p.2) && decide (p.2 < s) && decide (idxI c o p.1 p.2 = n) && okFrom c o s (n + 1) r
def most1 : List (Int × Int) → Bool
  | p :: q :: r => decide (jmp p q = 1) && most1 (q :: r)
  | _ => true
def curveCheck (c o : Int) (s : Nat) : Bool :=
  okFrom c o s 0 (visTo c o s s) && decide ((visTo c o s s).head? = some (0, 0)) && (decide (c = 0) || decide (c = 2) || most1 (visTo c o s s))
theorem check_all : ∀ c : Fin 4, ∀ o : Fin 5, curveCheck (c.val : Int) (o.val : Int) (2 ^ o.val) = true := by decide +kernel
theorem okFrom_at (c o : Int) (s : Nat) : ∀ (L : List (Int × Int)) (n : Nat), okFrom c o s n L = true → ∀ i (h : i < L.length), 0 ≤ L[i].1 ∧ L[i].1 < s ∧ 0 ≤ L[i].2 ∧ L[i].2 < s ∧ idxI c o L[i].1 L[i].2 = ((n + i : Nat) : Int) := by
  intro L
  induction L with
  | nil => intro n _ i h; simp at h
  | cons p r ih =>
    intro n h i hi
    simp only [okFrom, Bool.and_eq_true, decide_eq_true_eq] at h
    cases i with
    | zero => exact ⟨h.1.1.1.1.1, h.1.1.1.1.2, h.1.1.1.2, h.1.1.2, h.1.2⟩
    | succ i =>
      have := ih (n + 1) h.2 i (by simpa using hi)
      simp only [List.getElem_cons_succ]
      rw [show n + (i + 1) = n + 1 + i from by omega]; exact this
theorem most1_at : ∀ (L : List (Int × Int)), most1 L = true → ∀ i, i + 1 < L.length → jmp (gp L i) (gp L (i + 1)) = 1 := by
  intro L
  induction L with
  | nil => intro _ i h; simp at h
  | cons p r ih =>
    intro h i hi
    cases r with
    | nil => simp at hi
    | cons q r =>
      simp only [most1, Bool.and_eq_true, decide_eq_true_eq] at h
      cases i with
      | zero => exact h.1
      | succ i => exact ih h.2 i (by simpa using hi)
theorem most1_mx0 (L : List (Int × Int)) (h : most1 L = true) : ∀ k, k + 1 < L.length → mx0 L (k + 1) = 1 := by
  intro k
  induction k with
  | zero => intro hk; simp only [mx0]; rw [most1_at L h 0 hk]; decide
  | succ k ih => intro hk; rw [mx0, ih (by omega), most1_at L h (k + 1) hk]; decide
structure CurveFacts (c o : Int) (s : Nat) (L : List (Int × Int)) : Prop where
  len : L.length = s * s
  at_ : ∀ i (h : i < L.length), 0 ≤ L[i].1 ∧ L[i].1 < s ∧ 0 ≤ L[i].2 ∧ L[i].2 < s ∧ idxI c o L[i].1 L[i].2 = (i : Int)
  first : gp L 0 = (0, 0)
  one : (c = 1 ∨ c = 3) → 1 < s → mx0 L (s * s - 1) = 1
theorem curve_facts (c o : Int) (hc0 : 0 ≤ c) (hc3 : c ≤ 3) (h0 : 0 ≤ o) (h4 : o ≤ 4) (s : Nat) (hs : side o = s) : CurveFacts c o s (visTo c o s s) := by
  obtain ⟨c, rfl⟩ := Int.eq_ofNat_of_zero_le hc0
  obtain ⟨o, rfl⟩ := Int.eq_ofNat_of_zero_le h0
  have h := check_all ⟨c, by omega⟩ ⟨o, by omega⟩
  have e : (2 : Nat) ^ o = s := by
    have h1 : ((2 ^ o : Nat) : Int) = s := by rw [← hs]; simp [side]
    omega
  simp only [e] at h
  simp only [curveCheck, Bool.and_eq_true, Bool.or_eq_true, decide_eq_true_eq] at h
  obtain ⟨⟨ha, hb⟩, hd⟩ := h
  have hl := visTo_length (c : Int) (o : Int) s s
  refine ⟨hl, fun i hi => ?_, ?_, fun hc h1 => ?_⟩
  · have := okFrom_at _ _ _ _ 0 ha i hi
    simpa using this
  · rw [gp]
    rw [List.head?_eq_getElem?] at hb
    simp [hb]
  · have hm : most1 (visTo c o s s) = true := by
      rcases hd with (h | h) | h
      · omega
      · omega
      · exact h
    have hss : 1 * 2 ≤ s * s := Nat.mul_le_mul (by omega) (by omega)
    obtain ⟨m, hm2⟩ : ∃ m, s * s - 1 = m + 1 := ⟨s * s - 2, by omega⟩
    rw [hm2]
    exact most1_mx0 _ hm m (by rw [hl]; omega)
end Go.Proofs.Ytbkgmegpgnmlpaa
