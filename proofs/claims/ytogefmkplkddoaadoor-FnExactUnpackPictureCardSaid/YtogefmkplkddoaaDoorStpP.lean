/- Steps and their code: the plain part. -/
import Derived.Test.YtogefmkplkddoaaDoorBase
import Derived.Lib.Bytealg
import Derived.Lib.SlTrimSet
namespace Go.Proofs.YtogefmkplkddoaaDoor
open Go.RowKit

/-- A letter's number; -1 of another byte. -/
def wy (b : UInt8) : Int := Lib.indexByte [114, 100, 108, 117] b
theorem wy_eq (b : UInt8) : wy b = if b = 114 then 0 else if b = 100 then 1 else if b = 108 then 2 else if b = 117 then 3 else -1 := by
  unfold wy
  simp only [Lib.indexByte, beq_iff_eq]
  by_cases h0 : b = 114
  · subst h0; decide
  by_cases h1 : b = 100
  · subst h1; decide
  by_cases h2 : b = 108
  · subst h2; decide
  by_cases h3 : b = 117
  · subst h3; decide
  simp [h0, h1, h2, h3, Ne.symm h0, Ne.symm h1, Ne.symm h2, Ne.symm h3]
theorem wy_bd (b : UInt8) : wy b = -1 ∨ wy b = 0 ∨ wy b = 1 ∨ wy b = 2 ∨ wy b = 3 := by
  rw [wy_eq]; repeat' split
  all_goals simp
theorem wy_in (b : UInt8) : 0 ≤ wy b ↔ ([114, 100, 108, 117] : List UInt8).contains b = true := by
  rw [wy_eq]
  by_cases h0 : b = 114
  · subst h0; decide
  by_cases h1 : b = 100
  · subst h1; decide
  by_cases h2 : b = 108
  · subst h2; decide
  by_cases h3 : b = 117
  · subst h3; decide
  simp [h0, h1, h2, h3]
theorem dropW_nil {p : UInt8 → Bool} : ∀ {l : List UInt8}, l.dropWhile p = [] ↔ ∀ b ∈ l, p b = true
  | [] => by simp
  | a :: l => by
    rw [List.dropWhile_cons]
    by_cases h : p a = true
    · rw [if_pos h, dropW_nil]; simp [h]
    · rw [if_neg h]; simp [h]
theorem dropW_not {p : UInt8 → Bool} : ∀ {l : List UInt8}, l.dropWhile p ≠ [] → ∃ b ∈ l.dropWhile p, p b = false
  | [], h => by simp at h
  | a :: l, h => by
    rw [List.dropWhile_cons] at h ⊢
    by_cases hp : p a = true
    · rw [if_pos hp] at h ⊢; exact dropW_not h
    · rw [if_neg hp]; exact ⟨a, List.mem_cons_self, by simpa using hp⟩
/-- What a text trimmed of letters leaves. -/
theorem trimS_nil {l cs : List UInt8} : Lib.trimS l cs = [] ↔ ∀ b ∈ l, cs.contains b = true := by
  unfold Lib.trimS Lib.trimLeftS Lib.trimRightS
  rw [dropW_nil]
  constructor
  · intro h b hb
    by_cases hn : (l.reverse.dropWhile (cs.contains ·)) = []
    · exact dropW_nil.1 hn b (by simpa using hb)
    · obtain ⟨x, hx, h2⟩ := dropW_not hn
      have h3 := h x (List.mem_reverse.2 hx)
      rw [h3] at h2; cases h2
  · intro h b hb
    have hb' := List.mem_reverse.1 hb
    have := (List.dropWhile_sublist _).subset hb'
    exact h b (by simpa using this)
/-- The code of a step behind another one. -/
def pkS (a b : Int) : Option (List UInt8) := if (b - a + 4) % 4 = 0 then some [48] else if (b - a + 4) % 4 = 1 then some [49, 48] else if (b - a + 4) % 4 = 3 then some [49, 49] else none
/-- The code of the first step. -/
def pkF (b : UInt8) : List UInt8 := [UInt8.ofNat (48 + (wy b).toNat / 2), UInt8.ofNat (48 + (wy b).toNat % 2)]
def pkTo (l : List UInt8) : Nat → Option (List UInt8)
  | 0 => some []
  | k + 1 => if k = 0 then some (pkF (l.getD 0 0)) else
    match pkTo l k, pkS (wy (l.getD (k - 1) 0)) (wy (l.getD k 0)) with
    | some o, some d => some (o ++ d)
    | _, _ => none
theorem pkTo_none {l : List UInt8} {k : Nat} (h : pkTo l k = none) : ∀ d, pkTo l (k + d) = none := by
  intro d
  induction d with
  | zero => exact h
  | succ d ih =>
    have hk : k + d ≠ 0 := by
      intro e
      rw [e] at ih; cases ih
    rw [show k + (d + 1) = k + d + 1 from rfl, pkTo, if_neg hk, ih]
theorem pkS_len {a b : Int} {d : List UInt8} (h : pkS a b = some d) : 1 ≤ d.length ∧ d.length ≤ 2 := by
  unfold pkS at h
  split at h
  · cases h; simp
  · split at h
    · cases h; simp
    · split at h
      · cases h; simp
      · cases h
theorem pkTo_len {l : List UInt8} : ∀ k o, pkTo l k = some o → o.length ≤ 2 * k ∧ (0 < k → k < o.length) := by
  intro k
  induction k with
  | zero => intro o h; cases h; simp
  | succ k ih =>
    intro o h
    rw [pkTo] at h
    split at h
    · rename_i h0; subst h0; cases h; simp [pkF]
    · split at h
      · rename_i o' d h1 h2
        cases h
        have := ih _ h1
        have := pkS_len h2
        rw [List.length_append]
        omega
      · cases h
/-- The right steps. -/
def stpOk (l : List UInt8) : Bool := inB (l.length : Int) 1 600 && l.all fun b => decide (0 ≤ wy b)
def pkR (l : List UInt8) : Option (List UInt8) := if stpOk l then pkTo l l.length else none
def pkV (s : ByteArray) : ByteArray := match pkR s.data.toList with
  | some o => ⟨o.toArray⟩
  | none => ⟨#[]⟩
def pkB (s : ByteArray) : Bool := (pkR s.data.toList).isSome
theorem pk_no {s : ByteArray} (h : pkR s.data.toList = none) : pkV s = ⟨#[]⟩ ∧ pkB s = false := by simp [pkV, pkB, h]
theorem pk_yes {s : ByteArray} {o : List UInt8} (h : pkR s.data.toList = some o) : pkV s = ⟨o.toArray⟩ ∧ pkB s = true := by simp [pkV, pkB, h]
theorem ret_pk {s : ByteArray} {x : ByteArray} {b : Bool} (h : pkV s = x ∧ pkB s = b) : Ending.returned (.tuple #[.string x, .bool b]) = .returned (.tuple #[.string (pkV s), .bool (pkB s)]) := by rw [h.1, h.2]
theorem byte_at (s : ByteArray) (k : Nat) (h : k < s.size) : s.data.toList.getD k 0 = s[k] := by
  rw [List.getD_eq_getElem?_getD, List.getElem?_eq_getElem (by simpa using h)]
  rfl
end Go.Proofs.YtogefmkplkddoaaDoor
