/- Numbers read from their codes: the plain part. -/
import Derived.Test.YtogefmkplkddoaaDoorCodeM
import Derived.Test.YtogefmkplkddoaaDoorUpsP
namespace Go.Proofs.YtogefmkplkddoaaDoor
open Go.RowKit

/-- How many zeros a text begins with. -/
def zrs (l : List UInt8) : Nat := (l.takeWhile (· == 48)).length
/-- The value of the first k bits. -/
def vTo (bs : List UInt8) : Nat → Nat
  | 0 => 0
  | k + 1 => 2 * vTo bs k + ((bs.getD k 0).toNat - 48)
/-- The first number of a text, and what stands behind its code. -/
def nmStep (l : List UInt8) : Option (Nat × List UInt8) :=
  if 29 < zrs l ∨ l.length < 2 * zrs l + 1 then none else
  if (((l.drop (zrs l)).take (zrs l + 1)).all fun b => b == 48 || b == 49) = true ∧ vTo (l.drop (zrs l)) (zrs l + 1) ≤ 1000000000 then some (vTo (l.drop (zrs l)) (zrs l + 1), l.drop (2 * zrs l + 1)) else none
theorem nmStep_lt {l r : List UInt8} {n : Nat} (h : nmStep l = some (n, r)) : r.length < l.length := by
  unfold nmStep at h
  split at h
  · cases h
  · split at h
    · cases h; rename_i h1 _; simp; omega
    · cases h
def nmV (l : List UInt8) : Option (List Int) :=
  if l = [] then some [] else
  match _h : nmStep l with
  | none => none
  | some (n, r) => (nmV r).map ((n : Int) :: ·)
termination_by l.length
decreasing_by exact nmStep_lt (by assumption)
theorem nmV_nil : nmV [] = some [] := by rw [nmV]; simp
theorem nmV_bad {l : List UInt8} (h : l ≠ []) (h2 : nmStep l = none) : nmV l = none := by
  rw [nmV, if_neg h]
  split
  · rfl
  · rename_i e; rw [h2] at e; cases e
theorem nmV_good {l r : List UInt8} {n : Nat} (h : l ≠ []) (h2 : nmStep l = some (n, r)) : nmV l = (nmV r).map ((n : Int) :: ·) := by
  rw [nmV, if_neg h]
  split
  · rename_i e; rw [h2] at e; cases e
  · rename_i e; rw [h2] at e; cases e; rfl
theorem zrs_is {l : List UInt8} : ∀ {k : Nat}, k ≤ l.length → (∀ j, j < k → l.getD j 0 = 48) → (k < l.length → l.getD k 0 ≠ 48) → zrs l = k := by
  induction l with
  | nil => intro k h _ _; simp at h; subst h; rfl
  | cons a t ih =>
    intro k hk h1 h2
    unfold zrs
    rw [List.takeWhile_cons]
    match k with
    | 0 =>
      have := h2 (by simp)
      rw [if_neg (by simpa using this)]; rfl
    | k + 1 =>
      have ha : a = 48 := h1 0 (by omega)
      rw [if_pos (by simp [ha])]
      have := ih (k := k) (by simp at hk; omega) (fun j hj => h1 (j + 1) (by omega)) (fun hlt => h2 (by simp; omega))
      show (t.takeWhile _).length + 1 = k + 1
      exact congrArg (· + 1) this
theorem vTo_bd (bs : List UInt8) (hb : ∀ k, (bs.getD k 0).toNat - 48 ≤ 1) : ∀ k, vTo bs k < 2 ^ k := by
  intro k
  induction k with
  | zero => exact Nat.one_pos
  | succ k ih => rw [vTo, Nat.pow_succ]; have := hb k; omega
theorem vTo_lo (bs : List UInt8) (h0 : (bs.getD 0 0).toNat - 48 = 1) : ∀ k, 2 ^ k ≤ vTo bs (k + 1) := by
  intro k
  induction k with
  | zero => rw [vTo, vTo, h0]; decide
  | succ k ih => rw [vTo, Nat.pow_succ]; omega
/-- The bits of a value are its bits. -/
theorem bins_vTo (bs : List UInt8) (h0 : bs.getD 0 0 = 49) : ∀ k, k < bs.length → (∀ j, j ≤ k → bs.getD j 0 = 48 ∨ bs.getD j 0 = 49) → bins (vTo bs (k + 1)) = bs.take (k + 1) := by
  intro k
  induction k with
  | zero =>
    intro hk _
    match bs, hk with
    | a :: t, _ =>
      have : a = 49 := h0
      subst this
      rw [show vTo (49 :: t) (0 + 1) = 1 from rfl, bins_pos (by decide), show 1 / 2 = 0 from rfl, bins_zero]; rfl
  | succ k ih =>
    intro hk hb
    have hlo := vTo_lo bs (by rw [h0]; rfl) k
    have hp := Nat.two_pow_pos k
    have e : vTo bs (k + 1 + 1) = 2 * vTo bs (k + 1) + ((bs.getD (k + 1) 0).toNat - 48) := rfl
    have hbit := hb (k + 1) (Nat.le_refl _)
    have hx : (bs.getD (k + 1) 0).toNat - 48 ≤ 1 := by rcases hbit with h | h <;> rw [h] <;> decide
    rw [e, bins_pos (by omega), show (2 * vTo bs (k + 1) + ((bs.getD (k + 1) 0).toNat - 48)) / 2 = vTo bs (k + 1) from by omega, ih (by omega) (fun j hj => hb j (by omega)), List.take_succ_eq_append_getElem hk]
    congr 1
    have : bs.getD (k + 1) 0 = bs[k + 1] := by rw [List.getD_eq_getElem?_getD, List.getElem?_eq_getElem hk]; rfl
    rw [this] at hbit ⊢
    rw [show (2 * vTo bs (k + 1) + (bs[k + 1].toNat - 48)) % 2 = bs[k + 1].toNat - 48 from by rw [this] at hx; omega]
    rcases hbit with h | h <;> rw [h] <;> rfl
/-- The numbers and whether there are any. -/
def nmR (s : ByteArray) : Option (List Int) := if s.size ≤ 2000 then nmV s.data.toList else none
def nmO (s : ByteArray) : List Int := (nmR s).getD []
def nmB (s : ByteArray) : Bool := (nmR s).isSome
end Go.Proofs.YtogefmkplkddoaaDoor
