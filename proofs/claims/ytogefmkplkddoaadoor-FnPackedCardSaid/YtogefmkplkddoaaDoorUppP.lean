/- Pictures read from their codes: the plain part. -/
import Derived.Test.YtogefmkplkddoaaDoorNumO
import Derived.Test.YtogefmkplkddoaaDoorPack
import Derived.Test.YtogefmkplkddoaaDoorTldP
import Derived.Test.YtogefmkplkddoaaDoorResP
namespace Go.Proofs.YtogefmkplkddoaaDoor
open Go.RowKit

/-- The numbers behind the two sizes: the pixels of the first k runs. -/
def pfx (ns : List Int) : Nat → List Bool
  | 0 => []
  | k + 1 => pfx ns k ++ List.replicate (ns.getD (k + 2) 0 - 1).toNat (decide (k % 2 = 1))
theorem pfx_len (ns : List Int) (k : Nat) : (pfx ns (k + 1)).length = (pfx ns k).length + (ns.getD (k + 2) 0 - 1).toNat := by simp [pfx]
theorem pfx_mono (ns : List Int) (k : Nat) : ∀ d, (pfx ns k).length ≤ (pfx ns (k + d)).length := by
  intro d
  induction d with
  | zero => exact Nat.le_refl _
  | succ d ih => rw [show k + (d + 1) = k + d + 1 from rfl, pfx_len]; omega
def uW (s : ByteArray) : Nat := ((nmO s).getD 0 0).toNat
def uH (s : ByteArray) : Nat := ((nmO s).getD 1 0).toNat
def uL (s : ByteArray) : List Bool := pfx (nmO s) ((nmO s).length - 2)
/-- The sizes are right. -/
def uSz (s : ByteArray) : Bool := nmB s && (decide (3 ≤ (nmO s).length) && (inB ((nmO s).getD 0 0) 1 16 && inB ((nmO s).getD 1 0) 1 16))
def uRows (s : ByteArray) : List ByteArray := rowsTo (frL (uL s) (uW s) (uH s)) (uW s) (uH s)
def uOk (s : ByteArray) : Bool := uSz s && (decide ((uL s).length = uW s * uH s) && decide (packB (uRows s) = s))
def uV (s : ByteArray) : List ByteArray := if uOk s then uRows s else []
theorem nmStep_bd {l r : List UInt8} {n : Nat} (h : nmStep l = some (n, r)) : n ≤ 1000000000 := by
  unfold nmStep at h
  split at h
  · cases h
  · split at h
    · rename_i h2; cases h; exact h2.2
    · cases h
theorem nmV_bd : ∀ (m : Nat) (l : List UInt8), l.length ≤ m → ∀ o, nmV l = some o → ∀ n ∈ o, 0 ≤ n ∧ n ≤ 1000000000 := by
  intro m
  induction m with
  | zero =>
    intro l hl o h
    obtain rfl : l = [] := List.eq_nil_of_length_eq_zero (by omega)
    rw [nmV_nil] at h; cases h; simp
  | succ m ih =>
    intro l hl o h
    by_cases he : l = []
    · subst he; rw [nmV_nil] at h; cases h; simp
    · cases hs : nmStep l with
      | none => rw [nmV_bad he hs] at h; cases h
      | some x =>
        obtain ⟨v, r⟩ := x
        rw [nmV_good he hs] at h
        have hr := nmStep_lt hs
        have hv := nmStep_bd hs
        cases hx : nmV r with
        | none => rw [hx] at h; cases h
        | some y =>
          rw [hx] at h
          cases h
          intro n hn
          rcases List.mem_cons.1 hn with e | e
          · rw [e]; omega
          · exact ih r (by omega) y hx n e
theorem nmO_bd (s : ByteArray) (k : Nat) : 0 ≤ (nmO s).getD k 0 ∧ (nmO s).getD k 0 ≤ 1000000000 := by
  rw [List.getD_eq_getElem?_getD]
  cases e : (nmO s)[k]? with
  | none => simp
  | some n =>
    have hm := List.mem_of_getElem? e
    have : ∀ n ∈ nmO s, 0 ≤ n ∧ n ≤ 1000000000 := by
      rw [nmO, nmR]
      split
      · cases h : nmV s.data.toList with
        | none => simp
        | some o => exact nmV_bd s.size s.data.toList (Nat.le_refl _) o h
      · simp
    simpa using this n hm
theorem frL_length (L : List Bool) (W H : Nat) : (frL L W H).length = W * H := by simp [frL]
end Go.Proofs.YtogefmkplkddoaaDoor
