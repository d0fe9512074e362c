/- Trees of squares: codes read, plain. -/
import Derived.Test.YtogefmkplkddoaaDoorTrP
import Derived.Test.YtogefmkplkddoaaDoorTrJ
namespace Go.Proofs.YtogefmkplkddoaaDoor
open Go.RowKit

/-- The program's leaf of a byte. -/
def lfI (c : UInt8) : List UInt8 := if c = 48 then [46] else if c = 49 then [35] else []
/-- The reference's leaf of a byte. -/
def lfS (c : UInt8) : List UInt8 := if c = 49 then [35] else [46]
theorem lfI_bit (b : Bool) : lfI (bit1 b) = [clr b] := by cases b <;> rfl
theorem lfS_bit (b : Bool) : lfS (bit1 b) = [clr b] := by cases b <;> rfl
/-- The program's reading of a code: the text, and what stands behind. -/
def up : Nat → List UInt8 → Option (List UInt8 × List UInt8)
  | _, [] => none
  | 0, c :: r => some (lfI c, r)
  | n + 1, c :: r => if c = 48 then (match r with
      | [] => none
      | d :: r' => some (lfI d, r')) else if c = 49 then
      (up n r).bind fun a => (up n a.2).bind fun b => (up n b.2).bind fun c => (up n c.2).bind fun d => some (40 :: (a.1 ++ (b.1 ++ (c.1 ++ (d.1 ++ [41])))), d.2)
    else none
theorem up_nil (n : Nat) : up n [] = none := by cases n <;> rfl
theorem up_leaf (n : Nat) (d : UInt8) (r : List UInt8) : up (n + 1) (48 :: d :: r) = some (lfI d, r) := by rfl
theorem up_node (n : Nat) (r : List UInt8) : up (n + 1) (49 :: r) = (up n r).bind fun a => (up n a.2).bind fun b => (up n b.2).bind fun c => (up n c.2).bind fun d => some (40 :: (a.1 ++ (b.1 ++ (c.1 ++ (d.1 ++ [41])))), d.2) := by rfl
theorem up_pk : ∀ (n : Nat) (T : QT) (r : List UInt8), T.fits n = true → up n (T.pk n ++ r) = some (T.txt, r)
  | 0, .leaf b, r, _ => by
    show up 0 (bit1 b :: r) = _
    rw [up, lfI_bit]; rfl
  | n + 1, .leaf b, r, _ => by
    show up (n + 1) (48 :: bit1 b :: r) = _
    rw [up_leaf, lfI_bit]; rfl
  | n + 1, .node a b c d, r, h => by
    simp only [QT.fits, Bool.and_eq_true] at h
    obtain ⟨ha, hb, hc, hd⟩ := h
    have e : QT.pk (n + 1) (.node a b c d) ++ r = 49 :: (a.pk n ++ (b.pk n ++ (c.pk n ++ (d.pk n ++ r)))) := by simp [QT.pk]
    rw [e, up_node, up_pk n a _ ha]
    simp only [Option.bind_some]
    rw [up_pk n b _ hb]
    simp only [Option.bind_some]
    rw [up_pk n c _ hc]
    simp only [Option.bind_some]
    rw [up_pk n d _ hd]
    rfl
/-- What is left to read of a square of four, behind some of its parts. -/
def upK (n : Nat) : Nat → List UInt8 → List UInt8 → Option (List UInt8 × List UInt8)
  | 0, acc, r => some (acc ++ [41], r)
  | k + 1, acc, r => (up n r).bind fun a => upK n k (acc ++ a.1) a.2
theorem up_four (n : Nat) (r : List UInt8) : up (n + 1) (49 :: r) = upK n 4 [40] r := by
  rw [up_node]
  simp [upK, List.append_assoc]
theorem lfI_len (c : UInt8) : (lfI c).length ≤ 1 := by unfold lfI; split; · simp
                                                       split <;> simp
theorem up_len : ∀ (n : Nat) (l a r : List UInt8), up n l = some (a, r) → a.length ≤ 3 * 4 ^ n - 2 ∧ r.length ≤ l.length
  | n, [], a, r, h => by rw [up_nil] at h; cases h
  | 0, c :: l, a, r, h => by
    rw [show up 0 (c :: l) = some (lfI c, l) from rfl] at h
    cases h
    exact ⟨by have := lfI_len c; simp; omega, by simp⟩
  | n + 1, c :: l, a, r, h => by
    have h4 : 4 ^ (n + 1) = 4 * 4 ^ n := by rw [Nat.pow_succ]; omega
    have h1 : 1 ≤ 4 ^ n := Nat.one_le_pow _ _ (by decide)
    by_cases h48 : c = 48
    · subst h48
      cases l with
      | nil => exact absurd h (by simp [up])
      | cons d l =>
        rw [up_leaf] at h
        cases h
        exact ⟨by have := lfI_len d; omega, by simp; omega⟩
    · by_cases h49 : c = 49
      · subst h49
        rw [up_node] at h
        cases e1 : up n l with
        | none => rw [e1] at h; cases h
        | some a1 =>
          rw [e1] at h
          simp only [Option.bind_some] at h
          cases e2 : up n a1.2 with
          | none => rw [e2] at h; cases h
          | some a2 =>
            rw [e2] at h
            simp only [Option.bind_some] at h
            cases e3 : up n a2.2 with
            | none => rw [e3] at h; cases h
            | some a3 =>
              rw [e3] at h
              simp only [Option.bind_some] at h
              cases e4 : up n a3.2 with
              | none => rw [e4] at h; cases h
              | some a4 =>
                rw [e4] at h
                simp only [Option.bind_some, Option.some.injEq, Prod.mk.injEq] at h
                obtain ⟨rfl, rfl⟩ := h
                have l1 := up_len n _ _ _ e1
                have l2 := up_len n _ _ _ e2
                have l3 := up_len n _ _ _ e3
                have l4 := up_len n _ _ _ e4
                refine ⟨?_, by simp only [List.length_cons]; omega⟩
                simp only [List.length_cons, List.length_append, List.length_nil]
                omega
      · exact absurd h (by simp [up, h48, h49])
/-- What the program's reading answers. -/
def upA (o : Option (List UInt8 × List UInt8)) : ByteArray := match o with
  | some z => ⟨z.1.toArray⟩
  | none => ⟨#[]⟩
def upR (o : Option (List UInt8 × List UInt8)) : ByteArray := match o with
  | some z => ⟨z.2.toArray⟩
  | none => ⟨#[]⟩
/-- The reference's reading of a code: the text, and the place behind. -/
def ot (s : List UInt8) : Nat → Int → List UInt8 × Int
  | 0, z => if z < 0 ∨ (s.length : Int) ≤ z then ([], -1) else (lfS (s.getD z.toNat 0), z + 1)
  | n + 1, z => if z < 0 ∨ (s.length : Int) ≤ z then ([], -1) else if s.getD z.toNat 0 = 49 then
      (40 :: ((ot s n (z + 1)).1 ++ ((ot s n (ot s n (z + 1)).2).1 ++ ((ot s n (ot s n (ot s n (z + 1)).2).2).1 ++ ((ot s n (ot s n (ot s n (ot s n (z + 1)).2).2).2).1 ++ [41])))), (ot s n (ot s n (ot s n (ot s n (z + 1)).2).2).2).2)
    else if (s.length : Int) ≤ z + 1 then ([], -1) else (lfS (s.getD (z + 1).toNat 0), z + 2)
theorem ot_bd (s : List UInt8) : ∀ (n : Nat) (z : Int), -1 ≤ (ot s n z).2 ∧ (ot s n z).2 ≤ s.length
  | 0, z => by
    rw [ot]
    split
    · exact ⟨by omega, by simp only; omega⟩
    · exact ⟨by simp only; omega, by simp only; omega⟩
  | n + 1, z => by
    rw [ot]
    split
    · exact ⟨by omega, by simp only; omega⟩
    · split
      · exact ot_bd s n _
      · split
        · exact ⟨by omega, by simp only; omega⟩
        · exact ⟨by simp only; omega, by simp only; omega⟩
theorem lfS_len (c : UInt8) : (lfS c).length = 1 := by unfold lfS; split <;> rfl
theorem ot_len (s : List UInt8) : ∀ (n : Nat) (z : Int), (ot s n z).1.length ≤ 3 * 4 ^ n - 2
  | 0, z => by
    rw [ot]
    split
    · simp
    · simp [lfS_len]
  | n + 1, z => by
    have h4 : 4 ^ (n + 1) = 4 * 4 ^ n := by rw [Nat.pow_succ]; omega
    have h1 : 1 ≤ 4 ^ n := Nat.one_le_pow _ _ (by decide)
    rw [ot]
    split
    · simp
    · split
      · have a := ot_len s n (z + 1)
        have b := ot_len s n (ot s n (z + 1)).2
        have c := ot_len s n (ot s n (ot s n (z + 1)).2).2
        have d := ot_len s n (ot s n (ot s n (ot s n (z + 1)).2).2).2
        simp only [List.length_cons, List.length_append, List.length_nil]
        omega
      · split
        · simp
        · simp only [lfS_len]; omega
theorem ot_pk (s : List UInt8) : ∀ (n : Nat) (T : QT) (p : Nat) (r : List UInt8), T.fits n = true → s.drop p = T.pk n ++ r → ot s n (p : Int) = (T.txt, ((p + (T.pk n).length : Nat) : Int)) ∧ s.drop (p + (T.pk n).length) = r := by
  have key : ∀ (p : Nat) (c : UInt8) (r : List UInt8), s.drop p = c :: r → p < s.length ∧ s.getD p 0 = c ∧ s.drop (p + 1) = r := by
    intro p c r h
    have hp : p < s.length := by
      by_cases hp : p < s.length
      · exact hp
      · rw [List.drop_of_length_le (by omega)] at h; cases h
    rw [List.drop_eq_getElem_cons hp] at h
    cases h
    exact ⟨hp, by simp [List.getD_eq_getElem?_getD, hp], rfl⟩
  intro n
  induction n with
  | zero =>
    intro T p r hf h
    cases T with
    | node => simp [QT.fits] at hf
    | leaf b =>
      obtain ⟨h1, h2, h3⟩ := key p (bit1 b) r h
      refine ⟨?_, h3⟩
      rw [ot, if_neg (by omega), Int.toNat_natCast, h2, lfS_bit]; rfl
  | succ n ih =>
    intro T p r hf h
    cases T with
    | leaf b =>
      obtain ⟨h1, h2, h3⟩ := key p 48 (bit1 b :: r) h
      obtain ⟨k1, k2, k3⟩ := key (p + 1) (bit1 b) r h3
      refine ⟨?_, k3⟩
      rw [ot, if_neg (by omega), Int.toNat_natCast, h2, if_neg (by decide), if_neg (by omega), show ((p : Int) + 1).toNat = p + 1 by omega, k2, lfS_bit]
      rfl
    | node a b c d =>
      simp only [QT.fits, Bool.and_eq_true] at hf
      obtain ⟨ha, hb, hc, hd⟩ := hf
      have e : QT.pk (n + 1) (.node a b c d) ++ r = 49 :: (a.pk n ++ (b.pk n ++ (c.pk n ++ (d.pk n ++ r)))) := by simp [QT.pk]
      have el : (QT.pk (n + 1) (.node a b c d)).length = 1 + (a.pk n).length + (b.pk n).length + (c.pk n).length + (d.pk n).length := by simp [QT.pk]; omega
      rw [e] at h
      obtain ⟨h1, h2, h3⟩ := key p 49 _ h
      obtain ⟨a1, a2⟩ := ih a (p + 1) _ ha h3
      obtain ⟨b1, b2⟩ := ih b _ _ hb a2
      obtain ⟨c1, c2⟩ := ih c _ _ hc b2
      obtain ⟨d1, d2⟩ := ih d _ _ hd c2
      have ep : p + (QT.pk (n + 1) (.node a b c d)).length = p + 1 + (a.pk n).length + (b.pk n).length + (c.pk n).length + (d.pk n).length := by omega
      refine ⟨?_, by rw [ep]; exact d2⟩
      rw [ot, if_neg (by omega), Int.toNat_natCast, h2, if_pos rfl, show (p : Int) + 1 = ((p + 1 : Nat) : Int) by omega, a1]
      simp only
      rw [b1]
      simp only
      rw [c1]
      simp only
      rw [d1, ep]
      rfl
open Classical in
/-- A code of a tree with a side, read. -/
noncomputable def utO (side : Int) (s : ByteArray) : Option QT := if h : sdB side = true ∧ s.size ≤ 2000 ∧ ∃ T : QT, T.fits (sdN side) = true ∧ T.nrm = true ∧ T.pk (sdN side) = s.data.toList then some (Classical.choose h.2.2) else none
theorem utO_none {side : Int} {s : ByteArray} (h : ¬ (sdB side = true ∧ s.size ≤ 2000 ∧ ∃ T : QT, T.fits (sdN side) = true ∧ T.nrm = true ∧ T.pk (sdN side) = s.data.toList)) : utO side s = none := by
  rw [utO, dif_neg h]
theorem utO_some {side : Int} {s : ByteArray} {T : QT} (h0 : sdB side = true) (h1 : s.size ≤ 2000) (h2 : T.fits (sdN side) = true) (h3 : T.nrm = true) (h4 : T.pk (sdN side) = s.data.toList) : utO side s = some T := by
  have h : sdB side = true ∧ s.size ≤ 2000 ∧ ∃ T : QT, T.fits (sdN side) = true ∧ T.nrm = true ∧ T.pk (sdN side) = s.data.toList := ⟨h0, h1, T, h2, h3, h4⟩
  rw [utO, dif_pos h]
  obtain ⟨k1, _, k3⟩ := Classical.choose_spec h.2.2
  have e1 := up_pk (sdN side) _ [] k1
  have e2 := up_pk (sdN side) T [] h2
  rw [k3] at e1
  rw [h4, e1] at e2
  have e3 := congrArg (fun o => o.map Prod.fst) e2
  simp only [Option.map_some, Option.some.injEq] at e3
  rw [txt_inj k1 h2 e3]
def utB (o : Option QT) : Bool := o.isSome
def utT (o : Option QT) : ByteArray := match o with
  | some T => ⟨T.txt.toArray⟩
  | none => ⟨#[]⟩
end Go.Proofs.YtogefmkplkddoaaDoor
