/- Runs of colours, written out again: the plain part of the round trip. -/
import Derived.Test.YtogefmkplkddoaaDoorRunsM
namespace Go.Proofs.YtogefmkplkddoaaDoor
open Go.RowKit

/-- The colours that runs tell. -/
def expR (b : Bool) : List Int → List Bool
  | [] => []
  | r :: l => List.replicate r.toNat b ++ expR (!b) l
def parB (b : Bool) (n : Nat) : Bool := if n % 2 = 1 then !b else b
theorem parB_succ (b : Bool) (n : Nat) : parB (!b) n = parB b (n + 1) := by
  unfold parB
  rcases Nat.mod_two_eq_zero_or_one n with h | h <;> simp [h, Nat.add_mod]
theorem expR_append (b : Bool) (l m : List Int) : expR b (l ++ m) = expR b l ++ expR (parB b l.length) m := by
  induction l generalizing b with
  | nil => simp [expR, parB]
  | cons r l ih => rw [List.cons_append, expR, expR, ih, List.append_assoc, parB_succ, List.length_cons]
theorem expR_inc (b : Bool) (l : List Int) (r : Int) (h : 0 ≤ r) : expR b (incL (l ++ [r])) = expR b (l ++ [r]) ++ [parB b l.length] := by
  have e : incL (l ++ [r]) = l ++ [r + 1] := by
    unfold incL
    simp [List.getD]
  rw [e, expR_append, expR_append, List.append_assoc]
  congr 1
  simp only [expR, List.append_nil]
  rw [show (r + 1).toNat = r.toNat + 1 from by omega, List.replicate_succ']
theorem colTo_exp (bs : List Bool) : ∀ k, k ≤ bs.length → ∃ l r, (colTo bs k).1 = l ++ [r] ∧ 0 ≤ r ∧ (colTo bs k).2 = parB false l.length ∧ expR false (l ++ [r]) = bs.take k := by
  intro k
  induction k with
  | zero => intro _; exact ⟨[], 0, by simp [colTo_zero], by omega, by simp [colTo_zero, parB], by simp [expR]⟩
  | succ k ih =>
    intro h
    obtain ⟨l, r, e1, hr, e2, e3⟩ := ih (by omega)
    rw [colTo_succ (by omega), colS]
    have ht : bs.take (k + 1) = bs.take k ++ [bs[k]] := by rw [List.take_succ_eq_append_getElem (by omega)]
    have inc : ∀ (l : List Int) (r : Int), incL (l ++ [r]) = l ++ [r + 1] := by intro l r; unfold incL; simp [List.getD]
    split
    · rename_i hb
      refine ⟨l, r + 1, by simp only [e1, inc], by omega, by rw [← e2, ← hb], ?_⟩
      rw [← inc, expR_inc _ _ _ hr, e3, ht, ← e2, ← hb]
    · rename_i hb
      have hp : bs[k] = parB false (l ++ [r]).length := by
        rw [List.length_append, List.length_singleton, ← parB_succ]
        have : parB true l.length = !(parB false l.length) := by unfold parB; split <;> rfl
        simp only [Bool.not_false, this, ← e2]
        cases h1 : bs[k] <;> cases h2 : (colTo bs k).2 <;> simp_all
      refine ⟨l ++ [r], 0 + 1, by simp only [e1, inc], by omega, hp, ?_⟩
      rw [← inc, expR_inc _ _ _ (by omega), expR_append, e3, ht, ← hp]
      simp [expR]
theorem colR_exp (bs : List Bool) : expR false (colR bs) = bs := by
  obtain ⟨l, r, e, _, _, e3⟩ := colTo_exp bs bs.length (Nat.le_refl _)
  rw [colR, e, e3, List.take_length]

end Go.Proofs.YtogefmkplkddoaaDoor
