/- The laws' marks on texts. -/
import Derived.Test.YtkamkjbllmgifaaStr
import Derived.Deep.RegionHeld3
namespace Go.Proofs.Ytkamkjbllmgifaa
open Go.RowKit

/-- A number's digits. -/
def digs (k : Nat) : List UInt8 := if _h : k = 0 then [] else digs (k / 10) ++ [UInt8.ofNat (48 + k % 10)]
termination_by k
decreasing_by omega
theorem digs_zero : digs 0 = [] := by rw [digs]; simp
theorem digs_pos {k : Nat} (h : k ≠ 0) : digs k = digs (k / 10) ++ [UInt8.ofNat (48 + k % 10)] := by rw [digs]; simp [h]
def markS (k : Nat) : ByteArray := ⟨(109 :: digs k).toArray⟩
theorem digs_length (k : Nat) : (digs k).length ≤ k := by
  induction k using Nat.strongRecOn with
  | _ k ih =>
    by_cases h : k = 0
    · subst h; rw [digs_zero]; simp
    · rw [digs_pos h]
      have := ih (k / 10) (by omega)
      simp; omega
theorem digU (k : Nat) : ((UInt8.ofNat (48 + k % 10)).toNat : Int) = 48 + (k : Int) % 10 := by
  have : (UInt8.ofNat (48 + k % 10)).toNat = 48 + k % 10 := by
    rw [UInt8.toNat_ofNat']; omega
  rw [this]; omega

/-- The marks k, k + 1, .. as texts. -/
def markSs (k n : Nat) : List ByteArray := (List.range n).map fun i => markS (k + i)
theorem markSs_length (k n : Nat) : (markSs k n).length = n := by simp [markSs]
theorem markSs_succ (k n : Nat) : markSs k (n + 1) = markSs k n ++ [markS (k + n)] := by simp [markSs, List.range_succ]
theorem markSs_set (k0 k : Nat) (rows : List ByteArray) (hk : k < rows.length) : (strs (markSs k0 k ++ rows.drop k)).set k (.string (markS (k0 + k))) = strs (markSs k0 (k + 1) ++ rows.drop (k + 1)) := by
  have hd : rows.drop k = rows[k] :: rows.drop (k + 1) := List.drop_eq_getElem_cons hk
  rw [markSs_succ, hd]
  have hm : (List.map Value.string (markSs k0 k)).length = k := by simp [markSs_length]
  simp only [strs, List.map_append, List.map_cons, List.append_assoc, List.cons_append, List.nil_append]
  rw [List.set_append_right _ _ (by omega), hm, Nat.sub_self, List.set_cons_zero]
theorem markSs_full (k0 : Nat) (rows : List ByteArray) : strs (markSs k0 rows.length ++ rows.drop rows.length) = strs (markSs k0 rows.length) := by simp
theorem Chg.ext {S : Nat → Prop} {a b c : World} (h : Chg S a b) (k : Below b.heap.size b c) : Chg S a c :=
  ⟨k.os.trans h.os, k.tape.trans h.tape, k.output.trans h.output, Nat.le_trans h.size k.size, fun j hj hs => (k.block j (Nat.lt_of_lt_of_le hj h.size)).trans (h.block j hj hs)⟩

end Go.Proofs.Ytkamkjbllmgifaa
