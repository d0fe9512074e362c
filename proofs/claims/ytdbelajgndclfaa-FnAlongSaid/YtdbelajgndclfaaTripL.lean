/- A square drawn, along a curve and back: what the law FnAlong asks. -/
import Derived.Test.YtdbelajgndclfaaTripG
import Derived.Test.YtdbelajgndclfaaAlongP
import Derived.Test.YtdbelajgndclfaaResP
namespace Go.Proofs.Ytdbelajgndclfaa
open Go.RowKit

theorem ordOf_pow (o : Nat) (h : o ≤ 4) : ordOf ((2 ^ o : Nat) : Int) = o := by
  have e : o = 0 ∨ o = 1 ∨ o = 2 ∨ o = 3 ∨ o = 4 := by omega
  rcases e with e | e | e | e | e <;> subst e <;> rfl
/-- All that the law asks of the runs R of a square. -/
structure RunsOk (o S : Nat) (cv : Nat) (L : List Bool) (R : List Int) : Prop where
  ok : alongOk (rowsTo L S S) cv = true
  along : alongR (rowsTo L S S) cv = R
  back : frOk cv o R = true
  pic : rowsTo (frPic cv o R) (side (o : Int)).toNat (side (o : Int)).toNat = rowsTo L S S
  few : R.length ≤ 257
  num : ∀ k, k < R.length → 0 ≤ R.getD k 0 ∧ R.getD k 0 ≤ 256 ∧ (0 < k → R.getD k 0 ≠ 0)
  sum : ∀ k, k ≤ R.length → 0 ≤ (R.take k).sum ∧ (R.take k).sum ≤ 256
  odd : ∀ k, k ≤ R.length → 0 ≤ oddTo R k ∧ oddTo R k ≤ 256
  all : R.sum = ((S * S : Nat) : Int)
  black : oddTo R R.length = ((L.count true : Nat) : Int)
theorem runsOk (o S cv : Nat) (L : List Bool) (ho : o ≤ 4) (hc : cv ≤ 3) (hS : S = 2 ^ o) (hL : L.length = S * S) : RunsOk o S cv L (colR (alB L S S (visTo cv o S S))) := by
  have hs : side (o : Int) = (S : Int) := by rw [hS]; simp [side]
  have hS1 : 1 ≤ S ∧ S ≤ 16 := by
    have e : o = 0 ∨ o = 1 ∨ o = 2 ∨ o = 3 ∨ o = 4 := by omega
    rcases e with e | e | e | e | e <;> subst e <;> subst hS <;> decide
  have hSS : S * S ≤ 256 := Nat.le_trans (Nat.mul_le_mul hS1.2 hS1.2) (by decide)
  have c0 : (0 : Int) ≤ (cv : Int) := by omega
  have c3 : (cv : Int) ≤ 3 := by omega
  have o0 : (0 : Int) ≤ (o : Int) := by omega
  have o4 : (o : Int) ≤ 4 := by omega
  have hord : ordOf (S : Int) = o := by rw [hS]; exact ordOf_pow o ho
  have hpk := told_ok (L := L) (W := S) (H := S) (by omega) hS1.2 (by omega) hS1.2
  have hpb := told_bits (L := L) (W := S) (H := S) (by omega) hL
  have hpw := told_w (L := L) (W := S) (H := S) (by omega)
  have hpl := rowsTo_length L S S
  have hal : (alB L S S (visTo cv o S S)).length = S * S := by rw [alB_length, visTo_length]
  have hbd := colTo_bd (alB L S S (visTo cv o S S)) _ (Nat.le_refl _)
  have hfa := colR_facts (alB L S S (visTo cv o S S))
  obtain ⟨hb1, hb2⟩ := along_back (cv : Int) (o : Int) c0 c3 o0 o4 S hs L hL
  have hcnt := count_along (cv : Int) (o : Int) c0 c3 o0 o4 S hs L hL
  have hex := colR_exp (alB L S S (visTo cv o S S))
  have hR : ∀ k, k < (colR (alB L S S (visTo cv o S S))).length → 0 ≤ (colR (alB L S S (visTo cv o S S))).getD k 0 ∧ (colR (alB L S S (visTo cv o S S))).getD k 0 ≤ 256 := by
    intro k hk
    rw [List.getD_eq_getElem?_getD, List.getElem?_eq_getElem hk, Option.getD_some]
    have h1 := hbd.2.2 k hk
    have h2 : ((alB L S S (visTo cv o S S)).length : Int) ≤ 256 := by omega
    exact ⟨h1.1, Int.le_trans h1.2 h2⟩
  have hex2 : ∀ k, k ≤ (colR (alB L S S (visTo cv o S S))).length → ((expR false ((colR (alB L S S (visTo cv o S S))).take k)).length : Int) = ((colR (alB L S S (visTo cv o S S))).take k).sum := by
    generalize colR (alB L S S (visTo cv o S S)) = R at *
    intro k
    induction k with
    | zero => intro _; simp [expR]
    | succ k ih =>
      intro h
      have := hR k (by omega)
      rw [exp_take (by omega), sumTo_take (by omega), ← ih (by omega), List.length_append, List.length_replicate]
      omega
  have hlen : ∀ k, (expR false ((colR (alB L S S (visTo cv o S S))).take k)).length ≤ S * S := by
    intro k
    have := exp_len_le (runs := colR (alB L S S (visTo cv o S S))) k
    rw [hex, hal] at this
    exact this
  have hod := oddTo_exp (runs := colR (alB L S S (visTo cv o S S))) (fun k hk => (hR k hk).1)
  refine ⟨?_, ?_, ?_, ?_, by have := hfa.1; rw [hal] at this; omega, fun k hk => ⟨(hR k hk).1, (hR k hk).2, fun h0 => hfa.2.2 k h0 hk⟩, fun k hk => ?_, fun k hk => ?_, by rw [hfa.2.1, hal], ?_⟩
  · simp only [alongOk, hpk, hpw, hpl, hord, decide_true, Bool.true_and, Bool.and_eq_true, decide_eq_true_eq]
    exact ⟨o0, inB_true c0 c3⟩
  · rw [alongR, hpb, hpw, hpl, hord]
  · rw [frOk, hs, Int.toNat_natCast, hb1, Bool.and_true, curveOkB, inB_true c0 c3, inB_true o0 o4]; rfl
  · rw [frPic, hs, Int.toNat_natCast, hb2]
  · have h1 := hex2 k hk
    have h2 := hlen k
    omega
  · have h1 := hod k hk
    have h2 : (expR false ((colR (alB L S S (visTo cv o S S))).take k)).count true ≤ (expR false ((colR (alB L S S (visTo cv o S S))).take k)).length := List.count_le_length
    have h3 := hlen k
    omega
  · rw [hod _ (Nat.le_refl _), List.take_length, hex, hcnt]
end Go.Proofs.Ytdbelajgndclfaa
