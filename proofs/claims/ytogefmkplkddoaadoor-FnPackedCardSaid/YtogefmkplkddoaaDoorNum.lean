/- Steps and their code: the plain part. Steps read from their code: the plain part. Numbers read from their codes: the plain part. Steps and their code: the program's and the reference's. Steps read from their code: the program's and the reference's. Numbers read from their codes: the reference's. -/
import Derived.Test.YtogefmkplkddoaaDoorBase
import Derived.Lib.Bytealg
import Derived.Lib.SlTrimSet
import Derived.Test.YtogefmkplkddoaaDoorCodeM
import Derived.Test.YtogefmkplkddoaaDoorBts
import Derived.Test.YtogefmkplkddoaaDoorHQ
import Derived.Test.YtogefmkplkddoaaDoorShelf
import Derived.Deep.CutRange
import Derived.Shelf.Strings.SlTrimAscii
import Derived.Deep.DeepCutAuto
namespace Go.Proofs.YtogefmkplkddoaaDoor
open Go.RowKit

/-- A letter's number; -1 of another byte. -/
def wy (b : UInt8) : Int := Lib.indexByte [114, 100, 108, 117] b
theorem wy_eq (b : UInt8) : wy b = if b = 114 then 0 else if b = 100 then 1 else if b = 108 then 2 else if b = 117 then 3 else -1 := by
  unfold wy
  simp only [Lib.indexByte, beq_iff_eq]
  by_cases h0 : b = 114
  · subst h0; decide
  by_cases h1 : b = 100
  · subst h1; decide
  by_cases h2 : b = 108
  · subst h2; decide
  by_cases h3 : b = 117
  · subst h3; decide
  simp [h0, h1, h2, h3, Ne.symm h0, Ne.symm h1, Ne.symm h2, Ne.symm h3]
theorem wy_bd (b : UInt8) : wy b = -1 ∨ wy b = 0 ∨ wy b = 1 ∨ wy b = 2 ∨ wy b = 3 := by
  rw [wy_eq]; repeat' split
  all_goals simp
theorem wy_in (b : UInt8) : 0 ≤ wy b ↔ ([114, 100, 108, 117] : List UInt8).contains b = true := by
  rw [wy_eq]
  by_cases h0 : b = 114
  · subst h0; decide
  by_cases h1 : b = 100
  · subst h1; decide
  by_cases h2 : b = 108
  · subst h2; decide
  by_cases h3 : b = 117
  · subst h3; decide
  simp [h0, h1, h2, h3]
theorem dropW_nil {p : UInt8 → Bool} : ∀ {l : List UInt8}, l.dropWhile p = [] ↔ ∀ b ∈ l, p b = true
  | [] => by simp
  | a :: l => by
    rw [List.dropWhile_cons]
    by_cases h : p a = true
    · rw [if_pos h, dropW_nil]; simp [h]
    · rw [if_neg h]; simp [h]
theorem dropW_not {p : UInt8 → Bool} : ∀ {l : List UInt8}, l.dropWhile p ≠ [] → ∃ b ∈ l.dropWhile p, p b = false
  | [], h => by simp at h
  | a :: l, h => by
    rw [List.dropWhile_cons] at h ⊢
    by_cases hp : p a = true
    · rw [if_pos hp] at h ⊢; exact dropW_not h
    · rw [if_neg hp]; exact ⟨a, List.mem_cons_self, by simpa using hp⟩
/-- What a text trimmed of letters leaves. -/
theorem trimS_nil {l cs : List UInt8} : Lib.trimS l cs = [] ↔ ∀ b ∈ l, cs.contains b = true := by
  unfold Lib.trimS Lib.trimLeftS Lib.trimRightS
  rw [dropW_nil]
  constructor
  · intro h b hb
    by_cases hn : (l.reverse.dropWhile (cs.contains ·)) = []
    · exact dropW_nil.1 hn b (by simpa using hb)
    · obtain ⟨x, hx, h2⟩ := dropW_not hn
      have h3 := h x (List.mem_reverse.2 hx)
      rw [h3] at h2; cases h2
  · intro h b hb
    have hb' := List.mem_reverse.1 hb
    have := (List.dropWhile_sublist _).subset hb'
    exact h b (by simpa using this)
/-- The code of a step behind another one. -/
def pkS (a b : Int) : Option (List UInt8) := if (b - a + 4) % 4 = 0 then some [48] else if (b - a + 4) % 4 = 1 then some [49, 48] else if (b - a + 4) % 4 = 3 then some [49, 49] else none
/-- The code of the first step. -/
def pkF (b : UInt8) : List UInt8 := [UInt8.ofNat (48 + (wy b).toNat / 2), UInt8.ofNat (48 + (wy b).toNat % 2)]
def pkTo (l : List UInt8) : Nat → Option (List UInt8)
  | 0 => some []
  | k + 1 => if k = 0 then some (pkF (l.getD 0 0)) else
    match pkTo l k, pkS (wy (l.getD (k - 1) 0)) (wy (l.getD k 0)) with
    | some o, some d => some (o ++ d)
    | _, _ => none
theorem pkTo_none {l : List UInt8} {k : Nat} (h : pkTo l k = none) : ∀ d, pkTo l (k + d) = none := by
  intro d
  induction d with
  | zero => exact h
  | succ d ih =>
    have hk : k + d ≠ 0 := by
      intro e
      rw [e] at ih; cases ih
    rw [show k + (d + 1) = k + d + 1 from rfl, pkTo, if_neg hk, ih]
theorem pkS_len {a b : Int} {d : List UInt8} (h : pkS a b = some d) : 1 ≤ d.length ∧ d.length ≤ 2 := by
  unfold pkS at h
  split at h
  · cases h; simp
  · split at h
    · cases h; simp
    · split at h
      · cases h; simp
      · cases h
theorem pkTo_len {l : List UInt8} : ∀ k o, pkTo l k = some o → o.length ≤ 2 * k ∧ (0 < k → k < o.length) := by
  intro k
  induction k with
  | zero => intro o h; cases h; simp
  | succ k ih =>
    intro o h
    rw [pkTo] at h
    split at h
    · rename_i h0; subst h0; cases h; simp [pkF]
    · split at h
      · rename_i o' d h1 h2
        cases h
        have := ih _ h1
        have := pkS_len h2
        rw [List.length_append]
        omega
      · cases h
/-- The right steps. -/
def stpOk (l : List UInt8) : Bool := inB (l.length : Int) 1 600 && l.all fun b => decide (0 ≤ wy b)
def pkR (l : List UInt8) : Option (List UInt8) := if stpOk l then pkTo l l.length else none
def pkV (s : ByteArray) : ByteArray := match pkR s.data.toList with
  | some o => ⟨o.toArray⟩
  | none => ⟨#[]⟩
def pkB (s : ByteArray) : Bool := (pkR s.data.toList).isSome
theorem pk_no {s : ByteArray} (h : pkR s.data.toList = none) : pkV s = ⟨#[]⟩ ∧ pkB s = false := by simp [pkV, pkB, h]
theorem pk_yes {s : ByteArray} {o : List UInt8} (h : pkR s.data.toList = some o) : pkV s = ⟨o.toArray⟩ ∧ pkB s = true := by simp [pkV, pkB, h]
theorem ret_pk {s : ByteArray} {x : ByteArray} {b : Bool} (h : pkV s = x ∧ pkB s = b) : Ending.returned (.tuple #[.string x, .bool b]) = .returned (.tuple #[.string (pkV s), .bool (pkB s)]) := by rw [h.1, h.2]
theorem byte_at (s : ByteArray) (k : Nat) (h : k < s.size) : s.data.toList.getD k 0 = s[k] := by
  rw [List.getD_eq_getElem?_getD, List.getElem?_eq_getElem (by simpa using h)]
  rfl
end Go.Proofs.YtogefmkplkddoaaDoor

namespace Go.Proofs.YtogefmkplkddoaaDoor
open Go.RowKit

/-- The letter of a number. -/
def lettr (κ : Nat) : UInt8 := ([114, 100, 108, 117] : List UInt8).getD κ 0
theorem wy_lettr {κ : Nat} (h : κ < 4) : wy (lettr κ) = κ := by
  have : κ = 0 ∨ κ = 1 ∨ κ = 2 ∨ κ = 3 := by omega
  rcases this with rfl | rfl | rfl | rfl <;> decide
/-- What is read of bits behind the first two: the letters, and whether the last step is whole. -/
def dec : List UInt8 → Nat → List UInt8 → List UInt8 × Bool
  | [], _, o => (o, true)
  | b :: t, κ, o => if b = 49 then
      match t with
      | [] => (o ++ [lettr ((κ + 3) % 4)], false)
      | c :: t' => dec t' (if c = 48 then (κ + 1) % 4 else (κ + 3) % 4) (o ++ [lettr (if c = 48 then (κ + 1) % 4 else (κ + 3) % 4)])
    else dec t κ (o ++ [lettr κ])
theorem dec_zero {t : List UInt8} {κ : Nat} {o : List UInt8} : dec (48 :: t) κ o = dec t κ (o ++ [lettr κ]) := by
  rw [dec.eq_def]; simp
theorem dec_cut {κ : Nat} {o : List UInt8} : dec [49] κ o = (o ++ [lettr ((κ + 3) % 4)], false) := by rw [dec, if_pos rfl]
theorem dec_one {c : UInt8} {t : List UInt8} {κ : Nat} {o : List UInt8} : dec (49 :: c :: t) κ o = dec t (if c = 48 then (κ + 1) % 4 else (κ + 3) % 4) (o ++ [lettr (if c = 48 then (κ + 1) % 4 else (κ + 3) % 4)]) := by rw [dec, if_pos rfl]
theorem pkTo_app (o x : List UInt8) : ∀ k, k ≤ o.length → pkTo (o ++ x) k = pkTo o k := by
  intro k
  induction k with
  | zero => intro _; rfl
  | succ k ih =>
    intro h
    have e : ∀ i, i < o.length → (o ++ x).getD i 0 = o.getD i 0 := fun i hi => by
      simp only [List.getD_eq_getElem?_getD]; rw [List.getElem?_append_left hi]
    rw [pkTo, pkTo, ih (by omega), e 0 (by omega), e k (by omega), e (k - 1) (by omega)]
/-- One letter more. -/
theorem pk_snoc {o q : List UInt8} {a b : UInt8} (h : pkTo (o ++ [a]) (o.length + 1) = some q) {d : List UInt8} (hd : pkS (wy a) (wy b) = some d) : pkTo (o ++ [a] ++ [b]) (o.length + 1 + 1) = some (q ++ d) := by
  have e1 : (o ++ [a] ++ [b]).getD (o.length + 1 - 1) 0 = a := by simp
  have e2 : (o ++ [a] ++ [b]).getD (o.length + 1) 0 = b := by simp
  rw [pkTo, if_neg (by omega), pkTo_app _ _ _ (by simp), h, e1, e2, hd]
def bitL (l : List UInt8) : Prop := ∀ b ∈ l, b = 48 ∨ b = 49
theorem pkS_same {κ : Nat} : pkS (κ : Int) (κ : Int) = some [48] := by rw [pkS, if_pos (by omega)]
theorem pkS_next {κ : Nat} (_h : κ < 4) : pkS (κ : Int) (((κ + 1) % 4 : Nat) : Int) = some [49, 48] := by rw [pkS, if_neg (by omega), if_pos (by omega)]
theorem pkS_last {κ : Nat} (_h : κ < 4) : pkS (κ : Int) (((κ + 3) % 4 : Nat) : Int) = some [49, 49] := by rw [pkS, if_neg (by omega), if_neg (by omega), if_pos (by omega)]
structure DecF (t q : List UInt8) (r : List UInt8 × Bool) : Prop where
  pk : ∃ o κ, r.1 = o ++ [lettr κ] ∧ κ < 4 ∧ (∀ b ∈ r.1, 0 ≤ wy b) ∧ pkTo r.1 r.1.length = some (q ++ t ++ if r.2 then [] else [49])
theorem dec_facts : ∀ (n : Nat) (t : List UInt8) (κ : Nat) (o q : List UInt8), t.length ≤ n → κ < 4 → bitL t → (∀ b ∈ o, 0 ≤ wy b) → pkTo (o ++ [lettr κ]) (o.length + 1) = some q → DecF t q (dec t κ (o ++ [lettr κ])) := by
  intro n
  induction n with
  | zero =>
    intro t κ o q ht hκ _ ho hq
    obtain rfl : t = [] := List.eq_nil_of_length_eq_zero (by omega)
    refine ⟨o, κ, rfl, hκ, ?_, ?_⟩
    · intro b hb
      rcases List.mem_append.1 hb with h | h
      · exact ho b h
      · rw [List.mem_singleton.1 h, wy_lettr hκ]; omega
    · simpa [dec] using hq
  | succ n ih =>
    intro t κ o q ht hκ hb ho hq
    have hoa : ∀ b ∈ o ++ [lettr κ], 0 ≤ wy b := by
      intro b hb
      rcases List.mem_append.1 hb with h | h
      · exact ho b h
      · rw [List.mem_singleton.1 h, wy_lettr hκ]; omega
    have wκ := wy_lettr hκ
    match t with
    | [] =>
      refine ⟨o, κ, rfl, hκ, hoa, ?_⟩
      simpa [dec] using hq
    | b :: t =>
      rcases hb b List.mem_cons_self with rfl | rfl
      · rw [dec_zero]
        have h1 := pk_snoc (b := lettr κ) hq (d := [48]) (by rw [wκ]; exact pkS_same)
        have h2 := ih t κ (o ++ [lettr κ]) (q ++ [48]) (by simp at ht; omega) hκ (fun x hx => hb x (List.mem_cons_of_mem _ hx)) hoa (by rw [List.length_append]; exact h1)
        obtain ⟨o', κ', a1, a2, a3, a4⟩ := h2.pk
        exact ⟨o', κ', a1, a2, a3, by rw [a4]; simp⟩
      · match t with
        | [] =>
          rw [dec_cut]
          have hl : (κ + 3) % 4 < 4 := by omega
          have h1 := pk_snoc (b := lettr ((κ + 3) % 4)) hq (d := [49, 49]) (by rw [wκ, wy_lettr hl]; exact pkS_last hκ)
          refine ⟨o ++ [lettr κ], (κ + 3) % 4, rfl, hl, ?_, ?_⟩
          · intro b hb
            rcases List.mem_append.1 hb with h | h
            · exact hoa b h
            · rw [List.mem_singleton.1 h, wy_lettr hl]; omega
          · show pkTo (o ++ [lettr κ] ++ [lettr ((κ + 3) % 4)]) (o ++ [lettr κ] ++ [lettr ((κ + 3) % 4)]).length = _
            rw [show (o ++ [lettr κ] ++ [lettr ((κ + 3) % 4)]).length = o.length + 1 + 1 from by simp, h1]
            simp
        | c :: t =>
          rw [dec_one]
          have hc : c = 48 ∨ c = 49 := hb c (by simp)
          obtain ⟨κ', hκ', hl, hs⟩ : ∃ κ', (if c = 48 then (κ + 1) % 4 else (κ + 3) % 4) = κ' ∧ κ' < 4 ∧ pkS (κ : Int) (κ' : Int) = some [49, c] := by
            rcases hc with rfl | rfl
            · exact ⟨_, rfl, by rw [if_pos rfl]; omega, by rw [if_pos rfl]; exact pkS_next hκ⟩
            · exact ⟨_, rfl, by rw [if_neg (by decide)]; omega, by rw [if_neg (by decide)]; exact pkS_last hκ⟩
          rw [hκ']
          have h1 := pk_snoc (b := lettr κ') hq (d := [49, c]) (by rw [wκ, wy_lettr hl]; exact hs)
          have h2 := ih t κ' (o ++ [lettr κ]) (q ++ [49, c]) (by simp at ht; omega) hl (fun x hx => hb x (by simp [hx])) hoa (by rw [List.length_append]; exact h1)
          obtain ⟨o', κ2, a1, a2, a3, a4⟩ := h2.pk
          exact ⟨o', κ2, a1, a2, a3, by rw [a4]; simp⟩
/-- The first step's number, of two bits. -/
def fst2 (l : List UInt8) : Nat := (l.getD 0 0).toNat * 2 + (l.getD 1 0).toNat - 144
def decA (l : List UInt8) : List UInt8 × Bool := dec (l.drop 2) (fst2 l) [lettr (fst2 l)]
theorem fst2_cons (a b : UInt8) (t : List UInt8) : fst2 (a :: b :: t) = a.toNat * 2 + b.toNat - 144 := rfl
theorem decA_facts {l : List UInt8} (h2 : 2 ≤ l.length) (hb : bitL l) : fst2 l < 4 ∧ DecF [] l ⟨(decA l).1, (decA l).2⟩ := by
  match l, h2 with
  | a :: b :: t, _ =>
    have ha := hb a (by simp)
    have hb' := hb b (by simp)
    have hf : fst2 (a :: b :: t) < 4 := by
      rw [fst2_cons]; rcases ha with rfl | rfl <;> rcases hb' with rfl | rfl <;> decide
    refine ⟨hf, ?_⟩
    have hp : pkF (lettr (fst2 (a :: b :: t))) = [a, b] := by
      rw [fst2_cons]; rcases ha with rfl | rfl <;> rcases hb' with rfl | rfl <;> decide
    have hq0 : ∀ x : UInt8, pkF x = [a, b] → pkTo ([] ++ [x]) (([] : List UInt8).length + 1) = some [a, b] := fun x hx => by
      rw [pkTo, if_pos (show ([] : List UInt8).length = 0 from rfl)]; exact congrArg some hx
    have h := dec_facts t.length t (fst2 (a :: b :: t)) [] [a, b] (Nat.le_refl _) hf (fun x hx => hb x (by simp [hx])) (by simp) (hq0 _ hp)
    obtain ⟨o', κ', a1, a2, a3, a4⟩ := h.pk
    exact ⟨o', κ', a1, a2, a3, by
      show pkTo (dec t _ _).1 (dec t _ _).1.length = _
      rw [show [lettr (fst2 (a :: b :: t))] = [] ++ [lettr (fst2 (a :: b :: t))] from rfl, a4]
      simp [decA]⟩
/-- The answer of UnpackSteps. -/
def upOk (l : List UInt8) : Bool := inB (l.length : Int) 2 2000 && (l.all (fun b => b == 48 || b == 49) && ((decA l).2 && decide ((decA l).1.length ≤ 600)))
def upV (s : ByteArray) : ByteArray := if upOk s.data.toList then ⟨(decA s.data.toList).1.toArray⟩ else ⟨#[]⟩
def upB (s : ByteArray) : Bool := upOk s.data.toList
end Go.Proofs.YtogefmkplkddoaaDoor

namespace Go.Proofs.YtogefmkplkddoaaDoor
open Go.RowKit

/-- How many zeros a text begins with. -/
def zrs (l : List UInt8) : Nat := (l.takeWhile (· == 48)).length
/-- The value of the first k bits. -/
def vTo (bs : List UInt8) : Nat → Nat
  | 0 => 0
  | k + 1 => 2 * vTo bs k + ((bs.getD k 0).toNat - 48)
/-- The first number of a text, and what stands behind its code. -/
def nmStep (l : List UInt8) : Option (Nat × List UInt8) :=
  if 29 < zrs l ∨ l.length < 2 * zrs l + 1 then none else
  if (((l.drop (zrs l)).take (zrs l + 1)).all fun b => b == 48 || b == 49) = true ∧ vTo (l.drop (zrs l)) (zrs l + 1) ≤ 1000000000 then some (vTo (l.drop (zrs l)) (zrs l + 1), l.drop (2 * zrs l + 1)) else none
theorem nmStep_lt {l r : List UInt8} {n : Nat} (h : nmStep l = some (n, r)) : r.length < l.length := by
  unfold nmStep at h
  split at h
  · cases h
  · split at h
    · cases h; rename_i h1 _; simp; omega
    · cases h
def nmV (l : List UInt8) : Option (List Int) :=
  if l = [] then some [] else
  match _h : nmStep l with
  | none => none
  | some (n, r) => (nmV r).map ((n : Int) :: ·)
termination_by l.length
decreasing_by exact nmStep_lt (by assumption)
theorem nmV_nil : nmV [] = some [] := by rw [nmV]; simp
theorem nmV_bad {l : List UInt8} (h : l ≠ []) (h2 : nmStep l = none) : nmV l = none := by
  rw [nmV, if_neg h]
  split
  · rfl
  · rename_i e; rw [h2] at e; cases e
theorem nmV_good {l r : List UInt8} {n : Nat} (h : l ≠ []) (h2 : nmStep l = some (n, r)) : nmV l = (nmV r).map ((n : Int) :: ·) := by
  rw [nmV, if_neg h]
  split
  · rename_i e; rw [h2] at e; cases e
  · rename_i e; rw [h2] at e; cases e; rfl
theorem zrs_is {l : List UInt8} : ∀ {k : Nat}, k ≤ l.length → (∀ j, j < k → l.getD j 0 = 48) → (k < l.length → l.getD k 0 ≠ 48) → zrs l = k := by
  induction l with
  | nil => intro k h _ _; simp at h; subst h; rfl
  | cons a t ih =>
    intro k hk h1 h2
    unfold zrs
    rw [List.takeWhile_cons]
    match k with
    | 0 =>
      have := h2 (by simp)
      rw [if_neg (by simpa using this)]; rfl
    | k + 1 =>
      have ha : a = 48 := h1 0 (by omega)
      rw [if_pos (by simp [ha])]
      have := ih (k := k) (by simp at hk; omega) (fun j hj => h1 (j + 1) (by omega)) (fun hlt => h2 (by simp; omega))
      show (t.takeWhile _).length + 1 = k + 1
      exact congrArg (· + 1) this
theorem vTo_bd (bs : List UInt8) (hb : ∀ k, (bs.getD k 0).toNat - 48 ≤ 1) : ∀ k, vTo bs k < 2 ^ k := by
  intro k
  induction k with
  | zero => exact Nat.one_pos
  | succ k ih => rw [vTo, Nat.pow_succ]; have := hb k; omega
theorem vTo_lo (bs : List UInt8) (h0 : (bs.getD 0 0).toNat - 48 = 1) : ∀ k, 2 ^ k ≤ vTo bs (k + 1) := by
  intro k
  induction k with
  | zero => rw [vTo, vTo, h0]; decide
  | succ k ih => rw [vTo, Nat.pow_succ]; omega
/-- The bits of a value are its bits. -/
theorem bins_vTo (bs : List UInt8) (h0 : bs.getD 0 0 = 49) : ∀ k, k < bs.length → (∀ j, j ≤ k → bs.getD j 0 = 48 ∨ bs.getD j 0 = 49) → bins (vTo bs (k + 1)) = bs.take (k + 1) := by
  intro k
  induction k with
  | zero =>
    intro hk _
    match bs, hk with
    | a :: t, _ =>
      have : a = 49 := h0
      subst this
      rw [show vTo (49 :: t) (0 + 1) = 1 from rfl, bins_pos (by decide), show 1 / 2 = 0 from rfl, bins_zero]; rfl
  | succ k ih =>
    intro hk hb
    have hlo := vTo_lo bs (by rw [h0]; rfl) k
    have hp := Nat.two_pow_pos k
    have e : vTo bs (k + 1 + 1) = 2 * vTo bs (k + 1) + ((bs.getD (k + 1) 0).toNat - 48) := rfl
    have hbit := hb (k + 1) (Nat.le_refl _)
    have hx : (bs.getD (k + 1) 0).toNat - 48 ≤ 1 := by rcases hbit with h | h <;> rw [h] <;> decide
    rw [e, bins_pos (by omega), show (2 * vTo bs (k + 1) + ((bs.getD (k + 1) 0).toNat - 48)) / 2 = vTo bs (k + 1) from by omega, ih (by omega) (fun j hj => hb j (by omega)), List.take_succ_eq_append_getElem hk]
    congr 1
    have : bs.getD (k + 1) 0 = bs[k + 1] := by rw [List.getD_eq_getElem?_getD, List.getElem?_eq_getElem hk]; rfl
    rw [this] at hbit ⊢
    rw [show (2 * vTo bs (k + 1) + (bs[k + 1].toNat - 48)) % 2 = bs[k + 1].toNat - 48 from by rw [this] at hx; omega]
    rcases hbit with h | h <;> rw [h] <;> rfl
/-- The numbers and whether there are any. -/
def nmR (s : ByteArray) : Option (List Int) := if s.size ≤ 2000 then nmV s.data.toList else none
def nmO (s : ByteArray) : List Int := (nmR s).getD []
def nmB (s : ByteArray) : Bool := (nmR s).isSome
end Go.Proofs.YtogefmkplkddoaaDoor

namespace Go.Proofs.YtogefmkplkddoaaDoor
open Go.RowKit

theorem wy_is (b : UInt8) (l : UInt8) (k : Int) (h : (b = l) ↔ wy b = k) : ((b.toNat : Int) == (l.toNat : Int)) = decide (wy b = k) := by
  by_cases e : wy b = k
  · rw [h.2 e]; simp [← h.2 e, e]
  · have : b ≠ l := fun q => e (h.1 q)
    have h2 : b.toNat ≠ l.toNat := fun q => this (UInt8.toNat_inj.1 q)
    rw [decide_eq_false e]
    simp; omega
theorem wy_tests (b : UInt8) : (((b.toNat : Int) == 114) = decide (wy b = 0)) ∧ (((b.toNat : Int) == 100) = decide (wy b = 1)) ∧ (((b.toNat : Int) == 108) = decide (wy b = 2)) ∧ (((b.toNat : Int) == 117) = decide (wy b = 3)) := by
  refine ⟨wy_is b 114 0 ?_, wy_is b 100 1 ?_, wy_is b 108 2 ?_, wy_is b 117 3 ?_⟩ <;>
  · rw [wy_eq]
    by_cases h0 : b = 114
    · subst h0; decide
    by_cases h1 : b = 100
    · subst h1; decide
    by_cases h2 : b = 108
    · subst h2; decide
    by_cases h3 : b = 117
    · subst h3; decide
    simp [h0, h1, h2, h3]
set_option maxHeartbeats 1000000 in
theorem wayS_any (b : UInt8) (w : World) : Calls Tryd.prog 70 #[.int .u8 ((b.toNat : Nat) : Int)] w fun e w' => e = .returned (.int .i64 (wy b)) ∧ w = w' := by
  obtain ⟨t0, t1, t2, t3⟩ := wy_tests b
  have bd := wy_bd b
  generalize wy b = κ at *
  generalize ((b.toNat : Nat) : Int) = β at *
  go_enter Tryd.func70, Tryd.ntmps70
  go_wp2_with fail
  go_loop [3] (fun v => ∃ k : Nat, k ≤ 4 ∧ v = .int .i64 k ∧ (κ = -1 ∨ (k : Int) ≤ κ)) (fun v => 4 - (intOf v).toNat)
  case atStart => exact ⟨0, by omega, rfl, by omega⟩
  case round =>
    obtain ⟨k, hk, rfl, hkκ⟩ := hrel
    by_cases h4 : k = 4
    · subst h4
      have e : κ = -1 := by omega
      clear t0 t1 t2 t3
      subst e
      go_wp2_with fail
      go_ret
      exact ⟨rfl, rfl⟩
    · have hc : k = 0 ∨ k = 1 ∨ k = 2 ∨ k = 3 := by omega
      by_cases e : κ = k
      · rcases hc with rfl | rfl | rfl | rfl
        · have q : (β == (((ByteArray.mk #[114, 100, 108, 117])[0]'(by decide)).toNat : Int)) = true := by
            show (β == 114) = true
            rw [t0]; simpa using e
          clear t0 t1 t2 t3
          subst e
          go_wp2_with fail
          go_ret
          exact ⟨rfl, rfl⟩
        · have q : (β == (((ByteArray.mk #[114, 100, 108, 117])[1]'(by decide)).toNat : Int)) = true := by
            show (β == 100) = true
            rw [t1]; simpa using e
          clear t0 t1 t2 t3
          subst e
          go_wp2_with fail
          go_ret
          exact ⟨rfl, rfl⟩
        · have q : (β == (((ByteArray.mk #[114, 100, 108, 117])[2]'(by decide)).toNat : Int)) = true := by
            show (β == 108) = true
            rw [t2]; simpa using e
          clear t0 t1 t2 t3
          subst e
          go_wp2_with fail
          go_ret
          exact ⟨rfl, rfl⟩
        · have q : (β == (((ByteArray.mk #[114, 100, 108, 117])[3]'(by decide)).toNat : Int)) = true := by
            show (β == 117) = true
            rw [t3]; simpa using e
          clear t0 t1 t2 t3
          subst e
          go_wp2_with fail
          go_ret
          exact ⟨rfl, rfl⟩
      · rcases hc with rfl | rfl | rfl | rfl
        · have q : (β == (((ByteArray.mk #[114, 100, 108, 117])[0]'(by decide)).toNat : Int)) = false := by
            show (β == 114) = false
            rw [t0]; simpa using e
          clear t0 t1 t2 t3
          go_wp2_with fail
          go_round
          case rel => exact ⟨1, by omega, by go_num, by omega⟩
          case measure => simp [intOf]
        · have q : (β == (((ByteArray.mk #[114, 100, 108, 117])[1]'(by decide)).toNat : Int)) = false := by
            show (β == 100) = false
            rw [t1]; simpa using e
          clear t0 t1 t2 t3
          go_wp2_with fail
          go_round
          case rel => exact ⟨2, by omega, by go_num, by omega⟩
          case measure => simp [intOf]
        · have q : (β == (((ByteArray.mk #[114, 100, 108, 117])[2]'(by decide)).toNat : Int)) = false := by
            show (β == 108) = false
            rw [t2]; simpa using e
          clear t0 t1 t2 t3
          go_wp2_with fail
          go_round
          case rel => exact ⟨3, by omega, by go_num, by omega⟩
          case measure => simp [intOf]
        · have q : (β == (((ByteArray.mk #[114, 100, 108, 117])[3]'(by decide)).toNat : Int)) = false := by
            show (β == 117) = false
            rw [t3]; simpa using e
          clear t0 t1 t2 t3
          go_wp2_with fail
          go_round
          case rel => exact ⟨4, by omega, by go_num, by omega⟩
          case measure => simp [intOf]
set_option maxHeartbeats 400000 in
theorem stepOf_any (b : UInt8) (w : World) : Calls Tryd.prog 71 #[.int .u8 ((b.toNat : Nat) : Int)] w fun e w' => e = .returned (.int .i64 (wy b)) ∧ w = w' := by
  have IB := Lib.hid (fun V => (Tryd.strings_IndexByte ⟨#[114, 100, 108, 117]⟩ (((b.toNat : Nat) : Int)) V).mono (fun e w' hh => (show e = .returned (.int .i64 (wy b)) ∧ V = w' from by
    rw [hh.1]
    refine ⟨?_, hh.2.symm⟩
    simp [wy])))
  go_enter Tryd.func71, Tryd.ntmps71
  go_wp2_with fail
  refine (IB.out _).mono ?_
  rintro e w' ⟨rfl, rfl⟩
  go_wp2_with fail
  go_ret
  exact ⟨rfl, rfl⟩
theorem own_someB {w : World} {base : Nat} {e : TypeId} {size : Nat} {v : Value} {n : Nat} {xs : List Value} (h : w.ownsRow base e size v n xs) (hv : v ≠ .slice none 0 0) : ∃ g cap, v = .slice (some ⟨g, 0, none⟩) n cap := by
  rcases h.2 with ⟨h1, _⟩ | ⟨g, cap, cur, h1, _⟩
  · exact absurd h1 hv
  · exact ⟨g, cap, h1⟩
/-- append of a whole slice, at a plain list of operations. -/
theorem wpList_appB {T e : TypeId} {z : Value} {size bytes : Nat} (E : ElemT T e z size bytes) {w : World} {ops : Array Oper} {rest : List Oper} {o : Oper} {a : Act} {Q : Exit → Act → World → Prop} (hgd : o.guard = none) (s x : Operand)
    (ho : o.op = .call { callee := .builtin .append, args := #[s, x], argTypes := #[T, T] })
    (base : Nat) (v : Value) (n : Nat) (xs : List Value) (hs : a.eval s = v) (hown : w.ownsRow base e size v n xs)
    (g m c : Nat) (news : List Value) (hx : a.eval x = .slice (some ⟨g, 0, none⟩) m c) (hl : news.length = m * size) (hnews : ∀ j u, news[j]? = some u → w.cell? ((⟨g, 0, none⟩ : Addr).add j) = some u) (h1 : ∀ u ∈ news, u.oneCell' = true)
    (hn : n + m ≤ 1000000000) (hbase : base ≤ w.heap.size) (hv : v ≠ .slice none 0 0)
    (h : ∀ g cap w', w'.ownsRow base e size (.slice (some ⟨g, 0, none⟩) (n + m) cap) (n + m) (xs ++ news) → w.grownBy w' v.ownBlock → wpList Tryd.prog ops Q rest (a.put o.dst (.slice (some ⟨g, 0, none⟩) (n + m) cap)) w') : wpList Tryd.prog ops Q (o :: rest) a w := by
  obtain ⟨i0, hi, hz0, hz1, hz2⟩ := info_parts E.info
  have hsm := E.small
  refine wpList_append_own w hgd s x T ho base e i0 z size bytes E.under hi hz0 hz1 hz2 E.cells E.pos v n xs hs hown ⟨g, 0, none⟩ m c news hx hl hnews h1 (by unfold maxLen; omega) ?_ hbase ?_
  · have : (n + m) * bytes ≤ 1000000001 * 64 := Nat.mul_le_mul (by omega) hsm
    omega
  · intro v' w' hown' hg hnil
    obtain ⟨g', c', rfl⟩ := own_someB hown' (fun e => hv (hnil.1 e).1)
    exact h g' c' w' hown' hg

theorem own_u8 {w : World} {base base' g n cap : Nat} {xs : List Value} (h : w.ownsRow base 5 1 (.slice (some ⟨g, 0, none⟩) n cap) n xs) (hb : base' ≤ base) {ys : List Value} {m : Nat} (hx : xs = ys) (hn : n = m) : w.ownsRow base' 5 1 (.slice (some ⟨g, 0, none⟩) m cap) m ys := by
  subst hx hn; exact own_base h hb
theorem pkF_u8 {b : UInt8} {κ : Nat} (h : wy b = κ) (hκ : κ ≤ 3) : u8s (pkF b) = [.int .u8 (48 + (κ : Int) / 2), .int .u8 (48 + (κ : Int) % 2)] := by
  have e : (wy b).toNat = κ := by omega
  simp only [u8s, pkF, e, List.map_cons, List.map_nil]
  have : κ = 0 ∨ κ = 1 ∨ κ = 2 ∨ κ = 3 := by omega
  rcases this with rfl | rfl | rfl | rfl <;> rfl
theorem Calls.lift {f : FuncId} {args : Array Value} {w : World} {v : Value} (h : Calls Tryd.prog f args w fun e w' => e = .returned v ∧ w = w') : Calls Tryd.prog f args w fun e w' => e = .returned v ∧ Below w.heap.size w w' :=
  h.mono fun _ _ ⟨he, hw⟩ => ⟨he, hw ▸ Ext.refl _⟩
theorem u8_two (a b : UInt8) : u8s [a, b] = [.int .u8 ((a.toNat : Nat) : Int), .int .u8 ((b.toNat : Nat) : Int)] := rfl
theorem u8s_app (a b : List UInt8) : u8s (a ++ b) = u8s a ++ u8s b := by simp [u8s]
theorem trim_any (s : ByteArray) (cs : List UInt8) (w : World) (hs : s.size ≤ 1000000) (hc : cs.length ≤ 1000) (ha : cs.all (fun b => decide (b.toNat < 128)) = true) : Calls Tryd.prog 40 #[.string s, .string ⟨cs.toArray⟩] w fun e w' => e = .returned (.string ⟨(Lib.trimS s.data.toList cs).toArray⟩) ∧ Below w.heap.size w w' :=
  Any.strings_Trim_laid Tryd.lays160 (by kernel_rfl) s ⟨cs.toArray⟩ w (by omega) (by rw [show (ByteArray.mk cs.toArray).size = cs.length from by simp [ByteArray.size]]; omega) (ascii_of_all ha)
set_option maxRecDepth 100000 in
set_option maxHeartbeats 500000 in
theorem packSteps_any (s : ByteArray) (w : World) : Calls Tryd.prog 39 #[.string s] w fun e w' => e = .returned (.tuple #[.string (pkV s), .bool (pkB s)]) ∧ Below w.heap.size w w' := by
  have hlen : s.data.toList.length = s.size := rfl
  have I := Lib.hid (fun V => in_any (s.size : Int) 1 600 V)
  cases h1 : inB (s.size : Int) 1 600
  · have F := Lib.hid (pk_no (s := s) (by rw [pkR, stpOk, hlen, h1]; rfl))
    rw [F.out.1, F.out.2]
    rw [h1] at I
    go_enter Tryd.func39, Tryd.ntmps39
    go_wp2_with fail
    refine (I.out _).mono ?_
    rintro e w' ⟨rfl, rfl⟩
    go_wp2_with fail
    go_ret2
    exact ⟨rfl, Ext.refl _⟩
  rw [h1] at I
  obtain ⟨n0, n1⟩ := inB_iff.1 h1
  have TR := Lib.hid (fun V => trim_any s [114, 100, 108, 117] V (by omega) (by decide) (by decide))
  have TL : Hid (Lib.trimS s.data.toList [114, 100, 108, 117] = [] ↔ ∀ b ∈ s.data.toList, 0 ≤ wy b) := by
    rw [Hid, trimS_nil]
    exact ⟨fun h b hb => (wy_in b).2 (h b hb), fun h b hb => (wy_in b).1 (h b hb)⟩
  generalize Lib.trimS s.data.toList [114, 100, 108, 117] = tb at *
  have TE : (ByteArray.mk tb.toArray).toList.isEmpty = tb.isEmpty := by rw [ByteArray.toList_eq]
  generalize ByteArray.mk tb.toArray = ts at TR TE
  by_cases hall : ∀ b ∈ s.data.toList, 0 ≤ wy b
  case neg =>
    have F := Lib.hid (pk_no (s := s) (by
      rw [pkR, if_neg]
      rw [stpOk, Bool.and_eq_true, List.all_eq_true]
      exact fun h => hall (fun b hb => by simpa using h.2 b hb)))
    have htb : tb ≠ [] := fun e => hall (TL.out.1 e)
    have NE : ts.toList.isEmpty = false := by rw [TE]; cases tb with | nil => exact absurd rfl htb | cons => rfl
    rw [F.out.1, F.out.2]
    clear hall htb TL h1 TE
    go_enter Tryd.func39, Tryd.ntmps39
    go_wp2_with fail
    refine (I.out _).mono ?_
    rintro e w' ⟨rfl, rfl⟩
    go_wp2_with fail
    refine (TR.out _).mono ?_
    rintro e w' ⟨rfl, hb⟩
    go_wp2_with fail
    go_ret2
    exact ⟨rfl, hb⟩
  have htb : tb = [] := TL.out.2 hall
  rw [htb] at TE
  have NE : ts.toList.isEmpty = true := TE
  have OK : Hid (pkR s.data.toList = pkTo s.data.toList s.size) := by
    rw [Hid, pkR, if_pos, hlen]
    rw [stpOk, Bool.and_eq_true, List.all_eq_true, hlen]
    exact ⟨h1, fun b hb => by simpa using hall b hb⟩
  obtain ⟨n, hn⟩ : ∃ n, s.size = n := ⟨_, rfl⟩
  have WB : Hid (∀ (k : Nat) (h : k < s.size), 0 ≤ wy (s[k]'h) ∧ wy (s[k]'h) ≤ 3) := fun k h => by
    have h2 := hall (s[k]'h) (by rw [← byte_at s k h, List.getD_eq_getElem?_getD, List.getElem?_eq_getElem (by simpa using h)]; exact List.getElem_mem _)
    have := wy_bd (s[k]'h)
    omega
  have GD : Hid (∀ (k : Nat) (h : k < s.size), s.data.toList.getD k 0 = s[k]'h) := fun k h => byte_at s k h
  have SO := Lib.hid (fun (b : UInt8) V => stepOf_any b V)
  have HN := Lib.hid hn
  have z0 : 0 < s.size := by omega
  have f0 := WB.out 0 z0
  have fe := GD.out 0 z0
  have P1 : Hid (pkTo s.data.toList 1 = some (pkF s[0])) := by rw [Hid, pkTo, if_pos rfl, fe]
  obtain ⟨κ, hκ⟩ := Int.eq_ofNat_of_zero_le f0.1
  have PU := Lib.hid (pkF_u8 hκ (by omega))
  have S0 := Lib.hid (SO.out s[0])
  rw [hκ] at S0 f0
  have i00 : (0 : Int) < (s.size : Int) := by omega
  have k3 : κ ≤ 3 := by omega
  clear hall TL h1 fe hκ hlen TE htb hn
  go_enter Tryd.func39, Tryd.ntmps39
  go_wp2_with fail
  refine (I.out _).mono ?_
  rintro e w' ⟨rfl, rfl⟩
  go_wp2_with fail
  refine (TR.out _).mono ?_
  rintro e w1 ⟨rfl, hb1⟩
  go_wp2_with fail
  refine (S0.out _).mono ?_
  rintro e w' ⟨rfl, rfl⟩
  obtain ⟨w2, hw2⟩ : ∃ w2, w1.alloc (.cells #[.int .u8 (48 + (κ : Int) / 2), .int .u8 (48 + (κ : Int) % 2)] 5) = w2 := ⟨_, rfl⟩
  have O2 : w2.ownsRow w1.heap.size 5 1 (.slice (some ⟨w1.heap.size, 0, none⟩) 2 2) 2 (u8s (pkF s[0])) := by
    rw [PU.out, ← hw2]; exact World.ownsRow_lit (e := 5) (size := 1) w1 #[.int .u8 (48 + (κ : Int) / 2), .int .u8 (48 + (κ : Int) % 2)] 2 (Nat.le_refl _) (by decide) rfl
  have B2 : Below w.heap.size w w2 := Ext.then_ hb1 (by rw [← hw2]; exact Ext.more (Ext.refl _) _)
  have HW2 := Lib.hid hw2
  have HO2 := Lib.hid O2
  have hz := hb1.size
  have PL : Hid ((pkF s[0]).length = 2) := rfl
  clear hw2 O2 hb1 f0
  go_wp2_with fail
  try simp only [HW2.out]
  go_loopw [5, 6, 46, 51, 56] (fun v i _ _ _ wr => ∃ (k g c : Nat) (o : List UInt8), 1 ≤ k ∧ k ≤ s.size ∧ i = .int .i64 k ∧ v = .slice (some ⟨g, 0, none⟩) o.length c ∧ Hid (pkTo s.data.toList k = some o) ∧ wr.ownsRow w1.heap.size 5 1 (.slice (some ⟨g, 0, none⟩) o.length c) o.length (u8s o) ∧ Below w.heap.size w wr) (fun _ i _ _ _ _ => s.size - (intOf i).toNat)
  case atStart => exact ⟨1, _, _, pkF s[0], Nat.le_refl _, by omega, rfl, by rw [PL.out], P1, by rw [PL.out]; exact HO2.out, B2⟩
  case round =>
    obtain ⟨k, g, c, o, hk1, hk, rfl, rfl, hP, hown, hb⟩ := hrel
    clear B2
    by_cases hlt : k < s.size
    · obtain ⟨j, hj⟩ : ∃ j, j + 1 = k := ⟨k - 1, by omega⟩
      have hjl : j < s.size := by omega
      obtain ⟨b0, b1⟩ := WB.out k hlt
      obtain ⟨a0, a1⟩ := WB.out j hjl
      have PN : Hid (pkTo s.data.toList (k + 1) = match pkS (wy (s[j]'hjl)) (wy (s[k]'hlt)) with | some d => some (o ++ d) | none => none) := by
        rw [Hid, pkTo, if_neg (by omega), hP.out, GD.out k hlt, show k - 1 = j from by omega, GD.out j hjl]
        cases pkS (wy (s[j]'hjl)) (wy (s[k]'hlt)) <;> rfl
      have K1 := Lib.hid (SO.out (s[k]'hlt))
      have K2 := Lib.hid (SO.out (s[j]'hjl))
      have ol := (pkTo_len _ _ hP.out).1
      have PNO := Lib.hid (fun (h : pkTo s.data.toList (k + 1) = none) => pkTo_none h (s.size - (k + 1)))
      generalize wy (s[k]'hlt) = β at *
      generalize wy (s[j]'hjl) = α at *
      have i0 : (0 : Int) ≤ (k : Int) := by omega
      have i1 : (k : Int) < (s.size : Int) := by omega
      have i2 : (0 : Int) ≤ (j : Int) := by omega
      have i3 : (j : Int) < (s.size : Int) := by omega
      have e1 : IntKind.i64.wrap ((k : Int) - 1) = (j : Int) := by rw [IntWalk.i64_in _ (by omega)]; omega
      have e2 : IntKind.i64.wrap (β - α) = β - α := IntWalk.i64_in _ (by omega)
      have e3 : IntKind.i64.wrap (β - α + 4) = β - α + 4 := IntWalk.i64_in _ (by omega)
      have e4 : (β - α + 4).tmod 4 = (β - α + 4) % 4 := by rw [Int.tmod_eq_emod_of_nonneg (by omega)]
      have hr : (β - α + 4) % 4 = 0 ∨ (β - α + 4) % 4 = 1 ∨ (β - α + 4) % 4 = 2 ∨ (β - α + 4) % 4 = 3 := by omega
      have PS : Hid (pkS α β = if (β - α + 4) % 4 = 0 then some [48] else if (β - α + 4) % 4 = 1 then some [49, 48] else if (β - α + 4) % 4 = 3 then some [49, 49] else none) := rfl
      generalize (β - α + 4) % 4 = r at *
      have HX := Lib.hid (And.intro hown hb)
      clear hown hb
      rcases hr with rfl | rfl | rfl | rfl
      · have R : Hid (pkTo s.data.toList (k + 1) = some (o ++ [48])) := by rw [Hid, PN.out, PS.out]; rfl
        clear PN PS PNO
        go_wp2_with fail
        refine wp_region_held_quiet (fun U => Below wr.heap.size wr U) (by kernel_rfl) (by kernel_rfl) (Ext.refl _).drew ?_
        have ne : Nonempty (HeldW (fun U => Below wr.heap.size wr U)) := ⟨⟨wr, Ext.refl _⟩⟩
        repeat (go_big_quiet_step ((go_at_call 71; exact Calls.above_of _ (by first | exact Calls.lift (K1.out _) | exact Calls.lift (K2.out _)))))
        refine wpQuiet_nil ?_
        intro w4 hw'
        obtain ⟨⟨_, hb4⟩, rfl⟩ := hw'
        clear ne 
        have O4 := Lib.hid (own_ext hb4 HX.out.1)
        have B4 := Ext.then_ HX.out.2 hb4
        have z4 := B4.size
        have y4 := HX.out.1.lt g rfl
        have x4 := hb4.size
        clear HX hb4 K1 K2
        go_wp2_with (at_builtin; refine wpList_appB byteT (by rfl) _ _ (by rfl) w1.heap.size (.slice (some ⟨g, 0, none⟩) o.length c) o.length (u8s o) (by rfl) (O4.out.alloc _) w4.heap.size 1 1 [.int .u8 48] (by rfl) rfl (World.news_of_block (heap_alloc_new _ _)) (by simp [Value.oneCell']) (by omega) (by simp; omega) (by intro h; cases h) ?_; intro g5 c5 w5 own5 hg5)
        have B5 : Below w.heap.size w w5 := (Ext.more B4 _).grown hg5 (by simp; omega) (fun z hz => by simp [Value.ownBlock] at hz; omega)
        have HO := Lib.hid (own_u8 own5 (Nat.le_refl _) (ys := u8s (o ++ [48])) (m := (o ++ [(48 : UInt8)]).length) (by rw [u8s_app]; rfl) (by simp))
        have HL : Hid ((o ++ [(48 : UInt8)]).length = o.length + 1) := by simp [Hid]
        clear own5 hg5
        go_wp2_with fail
        go_roundw
        case rel => exact ⟨k + 1, g5, c5, o ++ [48], by omega, by omega, by go_num, by rw [HL.out], R, HO.out, B5⟩
        case measure => simp [intOf]; omega
      · have R : Hid (pkTo s.data.toList (k + 1) = some (o ++ [49, 48])) := by rw [Hid, PN.out, PS.out]; rfl
        clear PN PS PNO
        go_wp2_with fail
        refine wp_region_held_quiet (fun U => Below wr.heap.size wr U) (by kernel_rfl) (by kernel_rfl) (Ext.refl _).drew ?_
        have ne : Nonempty (HeldW (fun U => Below wr.heap.size wr U)) := ⟨⟨wr, Ext.refl _⟩⟩
        repeat (go_big_quiet_step ((go_at_call 71; exact Calls.above_of _ (by first | exact Calls.lift (K1.out _) | exact Calls.lift (K2.out _)))))
        refine wpQuiet_nil ?_
        intro w4 hw'
        obtain ⟨⟨_, hb4⟩, rfl⟩ := hw'
        clear ne 
        have O4 := Lib.hid (own_ext hb4 HX.out.1)
        have B4 := Ext.then_ HX.out.2 hb4
        have z4 := B4.size
        have y4 := HX.out.1.lt g rfl
        have x4 := hb4.size
        clear HX hb4 K1 K2
        go_wp2_with (at_builtin; refine wpList_appB byteT (by rfl) _ _ (by rfl) w1.heap.size (.slice (some ⟨g, 0, none⟩) o.length c) o.length (u8s o) (by rfl) (O4.out.alloc _) w4.heap.size 2 2 [.int .u8 49, .int .u8 48] (by rfl) rfl (World.news_of_block (heap_alloc_new _ _)) (by simp [Value.oneCell']) (by omega) (by simp; omega) (by intro h; cases h) ?_; intro g5 c5 w5 own5 hg5)
        have B5 : Below w.heap.size w w5 := (Ext.more B4 _).grown hg5 (by simp; omega) (fun z hz => by simp [Value.ownBlock] at hz; omega)
        have HO := Lib.hid (own_u8 own5 (Nat.le_refl _) (ys := u8s (o ++ [49, 48])) (m := (o ++ [(49 : UInt8), 48]).length) (by rw [u8s_app]; rfl) (by simp))
        have HL : Hid ((o ++ [(49 : UInt8), 48]).length = o.length + 2) := by simp [Hid]
        clear own5 hg5
        go_wp2_with fail
        go_roundw
        case rel => exact ⟨k + 1, g5, c5, o ++ [49, 48], by omega, by omega, by go_num, by rw [HL.out], R, HO.out, B5⟩
        case measure => simp [intOf]; omega
      · have R := PNO.out (by rw [PN.out, PS.out]; rfl)
        have F := Lib.hid (pk_no (s := s) (by rw [OK.out, show s.size = k + 1 + (s.size - (k + 1)) from by omega]; exact R))
        clear PN PS PNO R
        go_wp2_with fail
        refine wp_region_held_quiet (fun U => Below wr.heap.size wr U) (by kernel_rfl) (by kernel_rfl) (Ext.refl _).drew ?_
        have ne : Nonempty (HeldW (fun U => Below wr.heap.size wr U)) := ⟨⟨wr, Ext.refl _⟩⟩
        repeat (go_big_quiet_step ((go_at_call 71; exact Calls.above_of _ (by first | exact Calls.lift (K1.out _) | exact Calls.lift (K2.out _)))))
        refine wpQuiet_nil ?_
        intro w4 hw'
        obtain ⟨⟨_, hb4⟩, rfl⟩ := hw'
        clear ne 
        have B4 := Ext.then_ HX.out.2 hb4
        go_wp2_with fail
        go_ret2
        exact ⟨ret_pk F.out, B4⟩
      · have R : Hid (pkTo s.data.toList (k + 1) = some (o ++ [49, 49])) := by rw [Hid, PN.out, PS.out]; rfl
        clear PN PS PNO
        go_wp2_with fail
        refine wp_region_held_quiet (fun U => Below wr.heap.size wr U) (by kernel_rfl) (by kernel_rfl) (Ext.refl _).drew ?_
        have ne : Nonempty (HeldW (fun U => Below wr.heap.size wr U)) := ⟨⟨wr, Ext.refl _⟩⟩
        repeat (go_big_quiet_step ((go_at_call 71; exact Calls.above_of _ (by first | exact Calls.lift (K1.out _) | exact Calls.lift (K2.out _)))))
        refine wpQuiet_nil ?_
        intro w4 hw'
        obtain ⟨⟨_, hb4⟩, rfl⟩ := hw'
        clear ne 
        have O4 := Lib.hid (own_ext hb4 HX.out.1)
        have B4 := Ext.then_ HX.out.2 hb4
        have z4 := B4.size
        have y4 := HX.out.1.lt g rfl
        have x4 := hb4.size
        clear HX hb4 K1 K2
        go_wp2_with (at_builtin; refine wpList_appB byteT (by rfl) _ _ (by rfl) w1.heap.size (.slice (some ⟨g, 0, none⟩) o.length c) o.length (u8s o) (by rfl) (O4.out.alloc _) w4.heap.size 2 2 [.int .u8 49, .int .u8 49] (by rfl) rfl (World.news_of_block (heap_alloc_new _ _)) (by simp [Value.oneCell']) (by omega) (by simp; omega) (by intro h; cases h) ?_; intro g5 c5 w5 own5 hg5)
        have B5 : Below w.heap.size w w5 := (Ext.more B4 _).grown hg5 (by simp; omega) (fun z hz => by simp [Value.ownBlock] at hz; omega)
        have HO := Lib.hid (own_u8 own5 (Nat.le_refl _) (ys := u8s (o ++ [49, 49])) (m := (o ++ [(49 : UInt8), 49]).length) (by rw [u8s_app]; rfl) (by simp))
        have HL : Hid ((o ++ [(49 : UInt8), 49]).length = o.length + 2) := by simp [Hid]
        clear own5 hg5
        go_wp2_with fail
        go_roundw
        case rel => exact ⟨k + 1, g5, c5, o ++ [49, 49], by omega, by omega, by go_num, by rw [HL.out], R, HO.out, B5⟩
        case measure => simp [intOf]; omega
    · obtain rfl : k = s.size := by omega
      have F := Lib.hid (pk_yes (s := s) (by rw [OK.out]; exact hP.out))
      have CV := str_of_own hown rfl
      clear hown
      go_wp2_with fail
      go_ret2
      exact ⟨ret_pk F.out, hb⟩
set_option maxRecDepth 100000 in
set_option maxHeartbeats 1000000 in
theorem stepsS_any (s : ByteArray) (w : World) : Calls Tryd.prog 38 #[.string s] w fun e w' => e = .returned (.tuple #[.string (pkV s), .bool (pkB s)]) ∧ Below w.heap.size w w' := by
  have hlen : s.data.toList.length = s.size := rfl
  cases h1 : inB (s.size : Int) 1 600
  · have F := Lib.hid (pk_no (s := s) (by rw [pkR, stpOk, hlen, h1]; rfl))
    have h2 := inB_not.1 h1
    by_cases h3 : (s.size : Int) < 1
    · clear h2 h1 hlen
      go_enter Tryd.func38, Tryd.ntmps38
      go_wp2_with fail
      go_ret2
      exact ⟨ret_pk F.out, Ext.refl _⟩
    · have h4 : (600 : Int) < (s.size : Int) := by omega
      clear h2 h1 hlen
      go_enter Tryd.func38, Tryd.ntmps38
      go_wp2_with fail
      go_ret2
      exact ⟨ret_pk F.out, Ext.refl _⟩
  obtain ⟨n0, n1⟩ := inB_iff.1 h1
  have t1 : ¬ (s.size : Int) < 1 := by omega
  have t2 : ¬ (600 : Int) < (s.size : Int) := by omega
  have GD : Hid (∀ (k : Nat) (h : k < s.size), s.data.toList.getD k 0 = s[k]'h) := fun k h => byte_at s k h
  have SO := Lib.hid (fun (b : UInt8) V => wayS_any b V)
  have BAD : Hid (∀ (k : Nat) (h : k < s.size), wy (s[k]'h) < 0 → pkR s.data.toList = none) := fun k h hw => by
    rw [pkR, if_neg]
    rw [stpOk, Bool.and_eq_true, List.all_eq_true]
    intro hh
    have := hh.2 (s[k]'h) (by rw [← byte_at s k h, List.getD_eq_getElem?_getD, List.getElem?_eq_getElem (by simpa using h)]; exact List.getElem_mem _)
    simp at this
    omega
  have OK : Hid ((∀ (k : Nat) (h : k < s.size), 0 ≤ wy (s[k]'h)) → pkR s.data.toList = pkTo s.data.toList s.size) := fun hall => by
    rw [pkR, if_pos, hlen]
    rw [stpOk, Bool.and_eq_true, List.all_eq_true, hlen]
    refine ⟨h1, fun b hb => ?_⟩
    obtain ⟨k, hk, rfl⟩ := List.getElem_of_mem hb
    have := hall k hk
    simp only [decide_eq_true_eq]
    exact this
  have PNX : Hid (∀ (k : Nat), k < s.size → pkTo s.data.toList (k + 1) = none → (∀ (j : Nat) (h : j < s.size), 0 ≤ wy (s[j]'h)) ∨ pkR s.data.toList = none) := fun k _ _ => by
    by_cases hall : ∀ (j : Nat) (h : j < s.size), 0 ≤ wy (s[j]'h)
    · exact .inl hall
    · right
      simp only [Classical.not_forall] at hall
      obtain ⟨j, hj, hw⟩ := hall
      exact BAD.out j hj (by omega)
  clear h1 hlen
  go_enter Tryd.func38, Tryd.ntmps38
  go_wp2_with fail
  go_loopw [4, 5, 6, 50, 54, 58] (fun v i _ _ _ _ wr => ∃ (k : Nat) (o : List UInt8), k ≤ s.size ∧ i = .int .i64 k ∧ v = .string ⟨o.toArray⟩ ∧ Hid (pkTo s.data.toList k = some o) ∧ Hid (∀ (j : Nat) (h : j < s.size), j < k → 0 ≤ wy (s[j]'h)) ∧ Below w.heap.size w wr) (fun _ i _ _ _ _ _ => s.size - (intOf i).toNat)
  case atStart => exact ⟨0, [], Nat.zero_le _, rfl, rfl, rfl, (fun j h hj => absurd hj (Nat.not_lt_zero _)), Ext.refl _⟩
  case round =>
    obtain ⟨k, o, hk, rfl, rfl, hP, hW, hb⟩ := hrel
    have ol := (pkTo_len _ _ hP.out).1
    by_cases hlt : k < s.size
    · have K1 := Lib.hid (SO.out (s[k]'hlt))
      have i0 : (0 : Int) ≤ (k : Int) := by omega
      have i1 : (k : Int) < (s.size : Int) := by omega
      have bd := wy_bd (s[k]'hlt)
      by_cases hneg : wy (s[k]'hlt) < 0
      · have F := Lib.hid (pk_no (s := s) (BAD.out k hlt hneg))
        clear bd
        generalize wy (s[k]'hlt) = β at *
        go_wp2_with fail
        refine (K1.out _).mono ?_
        rintro e w' ⟨rfl, rfl⟩
        go_wp2_with fail
        go_ret2
        exact ⟨ret_pk F.out, hb⟩
      have W2 : Hid (∀ (j : Nat) (h : j < s.size), j < k + 1 → 0 ≤ wy (s[j]'h)) := fun j h hj => by
        rcases Nat.lt_succ_iff_lt_or_eq.1 hj with h2 | h2
        · exact hW.out j h h2
        · subst h2; omega
      by_cases hk0 : k = 0
      · subst hk0
        obtain rfl : o = [] := by have := hP.out; cases this; rfl
        obtain ⟨κ, hκ⟩ := Int.eq_ofNat_of_zero_le (show 0 ≤ wy (s[0]'hlt) by omega)
        have R : Hid (pkTo s.data.toList (0 + 1) = some (pkF (s[0]'hlt))) := by rw [Hid, pkTo, if_pos rfl, GD.out 0 hlt]
        have PU := pkF_u8 hκ (by omega)
        have F : Hid (ByteArray.mk ([] : List UInt8).toArray ++ ByteArray.mk (pkF (s[0]'hlt)).toArray = ⟨(pkF (s[0]'hlt)).toArray⟩) := bytes_app [] _
        have CV : ∀ V : World, (convert 30 9 (.slice (some ⟨V.heap.size, 0, none⟩) 2 2)).run Tryd.prog (V.alloc (.cells #[.int .u8 (48 + (κ : Int) / 2), .int .u8 (48 + (κ : Int) % 2)] 5)) = .ok (.string ⟨(pkF (s[0]'hlt)).toArray⟩) (V.alloc (.cells #[.int .u8 (48 + (κ : Int) / 2), .int .u8 (48 + (κ : Int) % 2)] 5)) := fun V =>
          str_of_own (l := pkF (s[0]'hlt)) (base := V.heap.size) (by rw [PU]; exact World.ownsRow_lit (e := 5) (size := 1) V #[.int .u8 (48 + (κ : Int) / 2), .int .u8 (48 + (κ : Int) % 2)] 2 (Nat.le_refl _) (by decide) rfl) rfl
        have k3 : κ ≤ 3 := by omega
        have hsz : (ByteArray.mk (pkF (s[0]'hlt)).toArray).size = 2 := rfl
        rw [hκ] at K1
        generalize pkF (s[0]'hlt) = pf at *
        generalize hpv : ByteArray.mk pf.toArray = pv at *
        have HPV := Lib.hid hpv
        clear bd hneg PU hκ hpv
        have t3 : ¬ 9223372036854775807 < 0 + pv.size := by omega
        go_wp2_with fail
        refine (K1.out _).mono ?_
        rintro e w' ⟨rfl, rfl⟩
        go_wp2_with fail
        go_roundw
        case rel => exact ⟨1, pf, by omega, by go_num, by rw [F.out, HPV.out], R, W2, Ext.more hb _⟩
        case measure => simp [intOf]; omega
      · obtain ⟨j, hj⟩ : ∃ j, j + 1 = k := ⟨k - 1, by omega⟩
        have hjl : j < s.size := by omega
        have a0 := hW.out j hjl (by omega)
        have bda := wy_bd (s[j]'hjl)
        have K2 := Lib.hid (SO.out (s[j]'hjl))
        have PN : Hid (pkTo s.data.toList (k + 1) = match pkS (wy (s[j]'hjl)) (wy (s[k]'hlt)) with | some d => some (o ++ d) | none => none) := by
          rw [Hid, pkTo, if_neg hk0, hP.out, GD.out k hlt, show k - 1 = j from by omega, GD.out j hjl]
          cases pkS (wy (s[j]'hjl)) (wy (s[k]'hlt)) <;> rfl
        have PNO : Hid (pkTo s.data.toList (k + 1) = none → pkR s.data.toList = none) := fun h => by
          rcases PNX.out k hlt h with h2 | h2
          · rw [OK.out h2, show s.size = k + 1 + (s.size - (k + 1)) from by omega]; exact pkTo_none h _
          · exact h2
        generalize wy (s[k]'hlt) = β at *
        generalize wy (s[j]'hjl) = α at *
        have i2 : (0 : Int) ≤ (j : Int) := by omega
        have i3 : (j : Int) < (s.size : Int) := by omega
        have e1 : IntKind.i64.wrap ((k : Int) - 1) = (j : Int) := by rw [IntWalk.i64_in _ (by omega)]; omega
        have e1' : (k : Int) - 1 = (j : Int) := by omega
        have hr : (β - α + 4) % 4 = 0 ∨ (β - α + 4) % 4 = 1 ∨ (β - α + 4) % 4 = 2 ∨ (β - α + 4) % 4 = 3 := by omega
        have PS : Hid (pkS α β = if (β - α + 4) % 4 = 0 then some [48] else if (β - α + 4) % 4 = 1 then some [49, 48] else if (β - α + 4) % 4 = 3 then some [49, 49] else none) := rfl
        have b0 : 0 ≤ β := by omega
        have w1 : wrap64 (β - α) = β - α := IntWalk.wrap64_in _ ⟨by omega, by omega⟩
        have w2 : wrap64 (β - α + 4) = β - α + 4 := IntWalk.wrap64_in _ ⟨by omega, by omega⟩
        have w3 : (β - α + 4).tmod 4 = (β - α + 4) % 4 := by rw [Int.tmod_eq_emod_of_nonneg (by omega)]
        clear bd bda hneg
        go_wp2_with fail
        refine (K1.out _).mono ?_
        rintro e w' ⟨rfl, rfl⟩
        go_wp2_with fail
        refine (K2.out _).mono ?_
        rintro e w' ⟨rfl, rfl⟩
        rcases hr with hr | hr | hr | hr
        · have R : Hid (pkTo s.data.toList (k + 1) = some (o ++ [48])) := by rw [Hid, PN.out, PS.out, hr]; rfl
          have F : Hid (ByteArray.mk o.toArray ++ ByteArray.mk #[48] = ⟨(o ++ [48]).toArray⟩) := bytes_app o [48]
          have t3 : ¬ 9223372036854775807 < o.length + 1 := by omega
          clear PN PS PNO
          go_wp2_with fail
          go_roundw
          case rel => exact ⟨k + 1, o ++ [48], by omega, by go_num, by rw [F.out], R, W2, hb⟩
          case measure => simp [intOf]; omega
        · have R : Hid (pkTo s.data.toList (k + 1) = some (o ++ [49, 48])) := by rw [Hid, PN.out, PS.out, hr]; rfl
          have F : Hid (ByteArray.mk o.toArray ++ ByteArray.mk #[49, 48] = ⟨(o ++ [49, 48]).toArray⟩) := bytes_app o [49, 48]
          have t3 : ¬ 9223372036854775807 < o.length + 2 := by omega
          clear PN PS PNO
          go_wp2_with fail
          go_roundw
          case rel => exact ⟨k + 1, o ++ [49, 48], by omega, by go_num, by rw [F.out], R, W2, hb⟩
          case measure => simp [intOf]; omega
        · have F := Lib.hid (pk_no (s := s) (PNO.out (by rw [PN.out, PS.out, hr]; rfl)))
          clear PN PS PNO
          go_wp2_with fail
          go_ret2
          exact ⟨ret_pk F.out, hb⟩
        · have R : Hid (pkTo s.data.toList (k + 1) = some (o ++ [49, 49])) := by rw [Hid, PN.out, PS.out, hr]; rfl
          have F : Hid (ByteArray.mk o.toArray ++ ByteArray.mk #[49, 49] = ⟨(o ++ [49, 49]).toArray⟩) := bytes_app o [49, 49]
          have t3 : ¬ 9223372036854775807 < o.length + 2 := by omega
          clear PN PS PNO
          go_wp2_with fail
          go_roundw
          case rel => exact ⟨k + 1, o ++ [49, 49], by omega, by go_num, by rw [F.out], R, W2, hb⟩
          case measure => simp [intOf]; omega
    · obtain rfl : k = s.size := by omega
      have F := Lib.hid (pk_yes (s := s) (by rw [OK.out (fun j h => hW.out j h h)]; exact hP.out))
      go_wp2_with fail
      go_ret2
      exact ⟨ret_pk F.out, hb⟩
set_option maxHeartbeats 400000 in
theorem packStepsI_any (s : ByteArray) (w : World) : Calls Tryd.prog 15 #[.string s] w fun e w' => e = .returned (.tuple #[.string (pkV s), .bool (pkB s)]) ∧ Below w.heap.size w w' := by
  have C := Lib.hid (packSteps_any s w)
  go_enter Tryd.func15, Tryd.ntmps15
  go_wp2_with fail
  refine (C.out).mono ?_
  rintro e w' ⟨rfl, hb⟩
  go_wp2_with fail
  go_ret2
  exact ⟨rfl, hb⟩
set_option maxHeartbeats 400000 in
theorem packStepsS_any (s : ByteArray) (w : World) : Calls Tryd.prog 14 #[.string s] w fun e w' => e = .returned (.tuple #[.string (pkV s), .bool (pkB s)]) ∧ Below w.heap.size w w' := by
  have C := Lib.hid (stepsS_any s w)
  have F : Hid (pkB s = false → pkV s = ⟨#[]⟩) := fun h => by
    rw [pkB] at h; rw [pkV]; cases e : pkR s.data.toList with | none => rfl | some o => rw [e] at h; cases h
  cases h : pkB s
  · rw [h] at C
    have F2 := Lib.hid (F.out h)
    rw [F2.out] at C ⊢
    go_enter Tryd.func14, Tryd.ntmps14
    go_wp2_with fail
    refine (C.out).mono ?_
    rintro e w' ⟨rfl, hb⟩
    go_wp2_with fail
    go_ret2
    exact ⟨rfl, hb⟩
  · rw [h] at C
    go_enter Tryd.func14, Tryd.ntmps14
    go_wp2_with fail
    refine (C.out).mono ?_
    rintro e w' ⟨rfl, hb⟩
    go_wp2_with fail
    go_ret2
    exact ⟨rfl, hb⟩
end Go.Proofs.YtogefmkplkddoaaDoor

namespace Go.Proofs.YtogefmkplkddoaaDoor
open Go.RowKit

theorem str_of_cells {w : World} {g c : Nat} {l : List UInt8} (h : ∀ j (hj : j < l.length), w.cell? ⟨g, j, none⟩ = some (.int .u8 ((l[j].toNat : Nat) : Int))) :
    (convert 30 9 (.slice (some ⟨g, 0, none⟩) l.length c)).run Tryd.prog w = .ok (.string ⟨l.toArray⟩) w := by
  refine run_convert_bytes_back w _ _ 5 _ _ l Tryd.underlying30 Tryd.underlying5 Tryd.underlying9 (fun j hj => ?_)
  rw [Addr.add_lit, Nat.zero_add]
  exact h j hj
theorem own_cells {w : World} {base g n cap : Nat} {l : List UInt8} (h : w.ownsRow base 5 1 (.slice (some ⟨g, 0, none⟩) n cap) n (u8s l)) (hn : l.length = n) : ∀ j (hj : j < l.length), w.cell? ⟨g, j, none⟩ = some (.int .u8 ((l[j].toNat : Nat) : Int)) := fun j hj => by
  subst hn
  rw [h.cellAt j (by omega)]
  simp [u8s, hj]
set_option maxHeartbeats 400000 in
theorem clip_any (g n c : Nat) (w : World) (hc : n ≤ c) : Calls Tryd.prog 41 #[.slice (some ⟨g, 0, none⟩) n c] w fun e w' => e = .returned (.slice (some ⟨g, 0, none⟩) n n) ∧ w = w' := by
  have h1 : (n : Int) ≤ (c : Int) := by omega
  have h0 : (0 : Int) ≤ (n : Int) := by omega
  go_enter Tryd.func41, Tryd.ntmps41
  go_wp2_with fail
  go_ret
  exact ⟨rfl, rfl⟩
theorem ltr_at {κ : Nat} (h : κ < 4) : ∀ hz : κ < (ByteArray.mk #[114, 100, 108, 117]).size, (((ByteArray.mk #[114, 100, 108, 117])[κ]'hz).toNat : Int) = (((lettr κ).toNat : Nat) : Int) := by
  have : κ = 0 ∨ κ = 1 ∨ κ = 2 ∨ κ = 3 := by omega
  rcases this with rfl | rfl | rfl | rfl <;> intro _ <;> rfl
/-- The bits, one by one. -/
theorem bit_at {s : ByteArray} (h : bitL s.data.toList) (k : Nat) (hk : k < s.size) : s[k] = 48 ∨ s[k] = 49 := by
  have := h (s[k]'hk) (by rw [← byte_at s k hk, List.getD_eq_getElem?_getD, List.getElem?_eq_getElem (by simpa using hk)]; exact List.getElem_mem _)
  exact this
theorem drop_at (s : ByteArray) (k : Nat) (hk : k < s.size) : s.data.toList.drop k = s[k] :: s.data.toList.drop (k + 1) := by
  rw [List.drop_eq_getElem_cons (by simpa using hk)]; rfl
theorem bits_iff {l : List UInt8} : (l.all (fun b => b == 48 || b == 49)) = true ↔ bitL l := by
  rw [List.all_eq_true]; unfold bitL
  constructor
  · intro h b hb; simpa using h b hb
  · intro h b hb; simpa using h b hb
theorem up_no {s : ByteArray} (h : upOk s.data.toList = false) : upV s = ⟨#[]⟩ ∧ upB s = false := by simp [upV, upB, h]
theorem ret_up {s : ByteArray} {x : ByteArray} {b : Bool} (h : upV s = x ∧ upB s = b) : Ending.returned (.tuple #[.string x, .bool b]) = .returned (.tuple #[.string (upV s), .bool (upB s)]) := by rw [h.1, h.2]
/-- What the code of what was read is. -/
theorem pk_dec {l : List UInt8} (h2 : 2 ≤ l.length) (hb : bitL l) : pkR (decA l).1 = if (decA l).1.length ≤ 600 then some (l ++ if (decA l).2 then [] else [49]) else none := by
  obtain ⟨o, κ, a1, a2, a3, a4⟩ := (decA_facts h2 hb).2.pk
  have hl : 1 ≤ (decA l).1.length := by
    show 1 ≤ (decA l).1.length
    have : (decA l).1 = o ++ [lettr κ] := a1
    rw [this]; simp
  by_cases h : (decA l).1.length ≤ 600
  · rw [if_pos h, pkR, if_pos, a4]
    · simp
    · rw [stpOk, Bool.and_eq_true, List.all_eq_true]
      exact ⟨inB_true (by omega) (by omega), fun b hb => by simpa using a3 b hb⟩
  · rw [if_neg h, pkR, if_neg]
    rw [stpOk, Bool.and_eq_true]
    intro hh
    have := (inB_iff.1 hh.1).2
    omega

set_option maxRecDepth 100000 in
set_option maxHeartbeats 2000000 in
theorem unpackSteps_any (s : ByteArray) (w : World) : Calls Tryd.prog 17 #[.string s] w fun e w' => e = .returned (.tuple #[.string (upV s), .bool (upB s)]) ∧ Below w.heap.size w w' := by
  have hlen : s.data.toList.length = s.size := rfl
  cases h1 : inB (s.size : Int) 2 2000
  · have F := Lib.hid (up_no (s := s) (by rw [upOk, hlen, h1]; rfl))
    have h2 := inB_not.1 h1
    by_cases h3 : (s.size : Int) < 2
    · clear h2 h1 hlen
      go_enter Tryd.func17, Tryd.ntmps17
      go_wp2_with fail
      go_ret2
      exact ⟨ret_up F.out, Ext.refl _⟩
    · have h4 : (2000 : Int) < (s.size : Int) := by omega
      clear h2 h1 hlen
      go_enter Tryd.func17, Tryd.ntmps17
      go_wp2_with fail
      go_ret2
      exact ⟨ret_up F.out, Ext.refl _⟩
  obtain ⟨n0, n1⟩ := inB_iff.1 h1
  have t1 : ¬ (s.size : Int) < 2 := by omega
  have t2 : ¬ (2000 : Int) < (s.size : Int) := by omega
  have TR := Lib.hid (fun V => trim_any s [48, 49] V (by omega) (by decide) (by decide))
  have TL : Hid (Lib.trimS s.data.toList [48, 49] = [] ↔ bitL s.data.toList) := by
    rw [Hid, trimS_nil]
    unfold bitL
    exact ⟨fun h b hb => by simpa using h b hb, fun h b hb => by simpa using h b hb⟩
  generalize Lib.trimS s.data.toList [48, 49] = tb at *
  have TE : (ByteArray.mk tb.toArray).toList.isEmpty = tb.isEmpty := by rw [ByteArray.toList_eq]
  generalize ByteArray.mk tb.toArray = ts at TR TE
  by_cases hbit : bitL s.data.toList
  case neg =>
    have F := Lib.hid (up_no (s := s) (by
      have : s.data.toList.all (fun b => b == 48 || b == 49) = false := by
        rw [← Bool.not_eq_true]; exact fun h => hbit (bits_iff.1 h)
      rw [upOk, this]; simp))
    have htb : tb ≠ [] := fun e => hbit (TL.out.1 e)
    have NE : ts.toList.isEmpty = false := by rw [TE]; cases tb with | nil => exact absurd rfl htb | cons => rfl
    clear hbit htb TL h1 TE hlen
    go_enter Tryd.func17, Tryd.ntmps17
    go_wp2_with fail
    refine (TR.out _).mono ?_
    rintro e w' ⟨rfl, hb⟩
    go_wp2_with fail
    go_ret2
    exact ⟨ret_up F.out, hb⟩
  have htb : tb = [] := TL.out.2 hbit
  rw [htb] at TE
  have NE : ts.toList.isEmpty = true := TE
  have s2 : 2 ≤ s.size := by omega
  have BA := Lib.hid (fun k hk => bit_at hbit k hk)
  have DR := Lib.hid (fun k hk => drop_at s k hk)
  have PD := Lib.hid (pk_dec (l := s.data.toList) (by rw [hlen]; exact s2) hbit)
  have UO : Hid (upOk s.data.toList = ((decA s.data.toList).2 && decide ((decA s.data.toList).1.length ≤ 600))) := by
    rw [Hid, upOk, hlen, h1, bits_iff.2 hbit]; rfl
  obtain ⟨κ, hκ⟩ : ∃ κ, fst2 s.data.toList = κ := ⟨_, rfl⟩
  have hk4 : κ < 4 := by rw [← hκ]; exact (decA_facts (l := s.data.toList) (by rw [hlen]; exact s2) hbit).1
  have DA : Hid (decA s.data.toList = dec (s.data.toList.drop 2) κ [lettr κ]) := by rw [Hid, decA, hκ]
  have KB : κ = (s[0]'(by omega)).toNat * 2 + (s[1]'(by omega)).toNat - 144 := by
    have a := byte_at s 0 (by omega)
    have b := byte_at s 1 (by omega)
    rw [← hκ, ← a, ← b]; rfl
  have g0 : ((s[0]'(by omega)).toNat : Int) = 48 ∨ ((s[0]'(by omega)).toNat : Int) = 49 := by
    rcases BA.out 0 (by omega) with h | h <;> rw [h] <;> decide
  have g1 : ((s[1]'(by omega)).toNat : Int) = 48 ∨ ((s[1]'(by omega)).toNat : Int) = 49 := by
    rcases BA.out 1 (by omega) with h | h <;> rw [h] <;> decide
  have i0 : (0 : Int) < (s.size : Int) := by omega
  have i1 : (1 : Int) < (s.size : Int) := by omega
  obtain ⟨x0, hx0⟩ : ∃ x0 : Nat, ((s[0]'(by omega)).toNat : Int) = 48 + x0 := by
    rcases g0 with h | h
    · exact ⟨0, by omega⟩
    · exact ⟨1, by omega⟩
  obtain ⟨x1, hx1⟩ : ∃ x1 : Nat, ((s[1]'(by omega)).toNat : Int) = 48 + x1 := by
    rcases g1 with h | h
    · exact ⟨0, by omega⟩
    · exact ⟨1, by omega⟩
  have e0 : IntKind.u8.wrap ((48 + (x0 : Int)) - 48) = (x0 : Int) := by
    rw [show (48 + (x0 : Int)) - 48 = x0 from by omega]
    have : x0 = 0 ∨ x0 = 1 := by omega
    rcases this with rfl | rfl <;> rfl
  have e1 : IntKind.u8.wrap ((48 + (x1 : Int)) - 48) = (x1 : Int) := by
    rw [show (48 + (x1 : Int)) - 48 = x1 from by omega]
    have : x1 = 0 ∨ x1 = 1 := by omega
    rcases this with rfl | rfl <;> rfl
  have e2 : IntKind.i64.wrap (x0 : Int) = (x0 : Int) := IntWalk.i64_in _ (by omega)
  have e3 : IntKind.i64.wrap (x1 : Int) = (x1 : Int) := IntWalk.i64_in _ (by omega)
  have e4 : IntKind.i64.wrap ((x0 : Int) * 2) = (x0 : Int) * 2 := IntWalk.i64_in _ (by omega)
  have e5 : IntKind.i64.wrap ((x0 : Int) * 2 + (x1 : Int)) = (κ : Int) := by rw [IntWalk.i64_in _ (by omega)]; omega
  clear g0 g1 hbit htb TL h1 TE hlen hκ KB
  go_enter Tryd.func17, Tryd.ntmps17
  go_wp2_with fail
  refine (TR.out _).mono ?_
  rintro e w1 ⟨rfl, hb1⟩
  go_wp2_with fail
  refine wp_region_held_quiet (fun U => Below w1.heap.size w1 U) (by kernel_rfl) (by kernel_rfl) (Ext.refl _).drew ?_
  have ne : Nonempty (HeldW (fun U => Below w1.heap.size w1 U)) := ⟨⟨w1, Ext.refl _⟩⟩
  repeat (go_big_quiet_step (fail))
  refine wpQuiet_nil ?_
  intro w2 hw'
  obtain ⟨⟨_, hb2⟩, rfl⟩ := hw'
  clear ne 
  have B2 := Ext.then_ hb1 hb2
  clear hb1 hb2 e0 e1 e2 e3 e4 e5 hx0 hx1

  have j0 : (0 : Int) ≤ (κ : Int) := by omega
  have j1 : (κ : Int) < 4 := by omega
  have lt := ltr_at hk4
  obtain ⟨w3, hw3⟩ : ∃ w3, w2.alloc (.cells #[.int .u8 (((lettr κ).toNat : Nat) : Int)] 5) = w3 := ⟨_, rfl⟩
  have O3 : w3.ownsRow w2.heap.size 5 1 (.slice (some ⟨w2.heap.size, 0, none⟩) 1 1) 1 (u8s [lettr κ]) := by rw [← hw3]; exact World.ownsRow_lit (e := 5) (size := 1) w2 #[.int .u8 (((lettr κ).toNat : Nat) : Int)] 1 (Nat.le_refl _) (by decide) rfl
  have B3 : Below w.heap.size w w3 := Ext.then_ B2 (by rw [← hw3]; exact Ext.more (Ext.refl _) _)
  have HW3 := Lib.hid hw3
  have HO3 := Lib.hid O3
  have hz := B2.size
  clear hw3 O3 B2
  go_wp2_with fail
  try simp only [HW3.out]
  clear lt j0 j1
  go_loopw [4, 5, 6] (fun kv v pv wr => ∃ (p κ g c : Nat) (o : List UInt8), 2 ≤ p ∧ p ≤ s.size ∧ κ < 4 ∧ kv = .int .i64 κ ∧ pv = .int .i64 p ∧ v = .slice (some ⟨g, 0, none⟩) o.length c ∧ Hid (decA s.data.toList = dec (s.data.toList.drop p) κ o) ∧ o.length ≤ p ∧ wr.ownsRow w2.heap.size 5 1 (.slice (some ⟨g, 0, none⟩) o.length c) o.length (u8s o) ∧ Below w.heap.size w wr) (fun _ _ pv _ => s.size - (intOf pv).toNat)
  case atStart => exact ⟨2, κ, _, _, [lettr κ], Nat.le_refl _, s2, hk4, rfl, rfl, rfl, DA, by simp, HO3.out, B3⟩
  case round =>
    obtain ⟨p, κ2, g, c, o, hp2, hp, hk2, rfl, rfl, rfl, hD, hol, hown, hb⟩ := hrel
    clear B3
    have gl := hown.lt g rfl
    by_cases hlt : p < s.size
    · have p0 : (0 : Int) ≤ (p : Int) := by omega
      have p1 : (p : Int) < (s.size : Int) := by omega
      have DP := DR.out p hlt
      rcases BA.out p hlt with h48 | h49
      · have hv : ((s[p].toNat : Nat) : Int) = 48 := by rw [h48]; rfl
        have D2 : Hid (decA s.data.toList = dec (s.data.toList.drop (p + 1)) κ2 (o ++ [lettr κ2])) := by rw [Hid, hD.out, DP, h48, dec_zero]
        have lt := ltr_at hk2
        have j0 : (0 : Int) ≤ (κ2 : Int) := by omega
        have j1 : (κ2 : Int) < 4 := by omega
        clear DP h48 hD

        have HOO := Lib.hid (own_ext (Ext.refl wr) hown)
        clear hown
        go_wp2_with (at_builtin; refine wpList_appB byteT (by rfl) _ _ (by rfl) w2.heap.size (.slice (some ⟨g, 0, none⟩) o.length c) o.length (u8s o) (by rfl) (HOO.out.alloc _) wr.heap.size 1 1 [.int .u8 (((lettr κ2).toNat : Nat) : Int)] (by rfl) rfl (World.news_of_block (heap_alloc_new _ _)) (by simp [Value.oneCell']) (by omega) (by simp; omega) (by intro h; cases h) ?_; intro g5 c5 w5 own5 hg5)
        have B5 : Below w.heap.size w w5 := (Ext.more hb _).grown hg5 (by simp; omega) (fun z hz => by simp [Value.ownBlock] at hz; omega)
        have HO := Lib.hid (own_u8 own5 (Nat.le_refl _) (ys := u8s (o ++ [lettr κ2])) (m := (o ++ [lettr κ2]).length) (by rw [u8s_app]; rfl) (by simp))
        have HL : Hid ((o ++ [lettr κ2]).length = o.length + 1) := by simp [Hid]
        clear own5 hg5
        go_wp2_with fail
        go_roundw
        case rel => exact ⟨p + 1, κ2, g5, c5, o ++ [lettr κ2], by omega, by omega, by omega, by go_num, by go_num, by rw [HL.out], D2, by rw [HL.out]; omega, HO.out, B5⟩
        case measure => simp [intOf]; omega
      · have hv : ((s[p].toNat : Nat) : Int) = 49 := by rw [h49]; rfl
        by_cases hcut : p + 1 = s.size
        · have F := Lib.hid (up_no (s := s) (by
            have e1 : s.data.toList.drop (p + 1) = [] := List.drop_eq_nil_of_le (by show s.size ≤ p + 1; omega)
            rw [UO.out, hD.out, DP, h49, e1, dec_cut]; rfl))
          have q : (((p : Int) + 1) == (s.size : Int)) = true := by simp; omega
          clear DP h49 hD hown
          go_wp2_with fail
          go_ret2
          exact ⟨ret_up F.out, hb⟩
        · have hp1 : p + 1 < s.size := by omega
          have DP1 := DR.out (p + 1) hp1
          have q : (((p : Int) + 1) == (s.size : Int)) = false := by simp; omega
          obtain ⟨p', hp'⟩ : ∃ p', p + 1 = p' := ⟨_, rfl⟩
          have ep : (p : Int) + 1 = (p' : Int) := by omega
          rw [ep] at q
          have p2 : (0 : Int) ≤ (p' : Int) := by omega
          have p3 : (p' : Int) < (s.size : Int) := by omega
          have hv2 : ((s[p']'(by omega)).toNat : Int) = 48 ∨ ((s[p']'(by omega)).toNat : Int) = 49 := by
            rcases BA.out p' (by omega) with h | h <;> rw [h] <;> decide
          have D2 : Hid (((s[p']'(by omega)).toNat : Int) = 48 → decA s.data.toList = dec (s.data.toList.drop (p' + 1)) ((κ2 + 1) % 4) (o ++ [lettr ((κ2 + 1) % 4)])) := fun h => by
            subst hp'
            have hc : s[p + 1] = 48 := UInt8.toNat_inj.1 (by rw [show (48 : UInt8).toNat = 48 from rfl]; omega)
            rw [hD.out, DP, h49, DP1, hc, dec_one, if_pos rfl]
          have D3 : Hid (((s[p']'(by omega)).toNat : Int) = 49 → decA s.data.toList = dec (s.data.toList.drop (p' + 1)) ((κ2 + 3) % 4) (o ++ [lettr ((κ2 + 3) % 4)])) := fun h => by
            subst hp'
            have hc : s[p + 1] = 49 := UInt8.toNat_inj.1 (by rw [show (49 : UInt8).toNat = 49 from rfl]; omega)
            rw [hD.out, DP, h49, DP1, hc, dec_one, if_neg (by decide)]
          have hk3 : κ2 = 0 ∨ κ2 = 1 ∨ κ2 = 2 ∨ κ2 = 3 := by omega
          clear DP h49 hD DP1 hcut
          rcases hv2 with hv2 | hv2
          · have E := Lib.hid (D2.out hv2)
            clear D2 D3
            rcases hk3 with rfl | rfl | rfl | rfl
            · have lt := ltr_at (show 1 < 4 by decide)
              have E2 : Hid (decA s.data.toList = dec (s.data.toList.drop (p' + 1)) 1 (o ++ [lettr 1])) := E.out
              have HOO := Lib.hid (own_ext (Ext.refl wr) hown)
              clear hown
              go_wp2_with (at_builtin; refine wpList_appB byteT (by rfl) _ _ (by rfl) w2.heap.size (.slice (some ⟨g, 0, none⟩) o.length c) o.length (u8s o) (by rfl) (HOO.out.alloc _) wr.heap.size 1 1 [.int .u8 (((lettr 1).toNat : Nat) : Int)] (by rfl) rfl (World.news_of_block (heap_alloc_new _ _)) (by simp [Value.oneCell']) (by omega) (by simp; omega) (by intro h; cases h) ?_; intro g5 c5 w5 own5 hg5)
              have B5 : Below w.heap.size w w5 := (Ext.more hb _).grown hg5 (by simp; omega) (fun z hz => by simp [Value.ownBlock] at hz; omega)
              have HO := Lib.hid (own_u8 own5 (Nat.le_refl _) (ys := u8s (o ++ [lettr 1])) (m := (o ++ [lettr 1]).length) (by rw [u8s_app]; rfl) (by simp))
              have HL : Hid ((o ++ [lettr 1]).length = o.length + 1) := by simp [Hid]
              clear own5 hg5
              go_wp2_with fail
              go_roundw
              case rel => exact ⟨p' + 1, 1, g5, c5, o ++ [lettr 1], by omega, by omega, by omega, by go_num, by go_num, by rw [HL.out], E2, by rw [HL.out]; omega, HO.out, B5⟩
              case measure => simp [intOf]; omega
            · have lt := ltr_at (show 2 < 4 by decide)
              have E2 : Hid (decA s.data.toList = dec (s.data.toList.drop (p' + 1)) 2 (o ++ [lettr 2])) := E.out
              have HOO := Lib.hid (own_ext (Ext.refl wr) hown)
              clear hown
              go_wp2_with (at_builtin; refine wpList_appB byteT (by rfl) _ _ (by rfl) w2.heap.size (.slice (some ⟨g, 0, none⟩) o.length c) o.length (u8s o) (by rfl) (HOO.out.alloc _) wr.heap.size 1 1 [.int .u8 (((lettr 2).toNat : Nat) : Int)] (by rfl) rfl (World.news_of_block (heap_alloc_new _ _)) (by simp [Value.oneCell']) (by omega) (by simp; omega) (by intro h; cases h) ?_; intro g5 c5 w5 own5 hg5)
              have B5 : Below w.heap.size w w5 := (Ext.more hb _).grown hg5 (by simp; omega) (fun z hz => by simp [Value.ownBlock] at hz; omega)
              have HO := Lib.hid (own_u8 own5 (Nat.le_refl _) (ys := u8s (o ++ [lettr 2])) (m := (o ++ [lettr 2]).length) (by rw [u8s_app]; rfl) (by simp))
              have HL : Hid ((o ++ [lettr 2]).length = o.length + 1) := by simp [Hid]
              clear own5 hg5
              go_wp2_with fail
              go_roundw
              case rel => exact ⟨p' + 1, 2, g5, c5, o ++ [lettr 2], by omega, by omega, by omega, by go_num, by go_num, by rw [HL.out], E2, by rw [HL.out]; omega, HO.out, B5⟩
              case measure => simp [intOf]; omega
            · have lt := ltr_at (show 3 < 4 by decide)
              have E2 : Hid (decA s.data.toList = dec (s.data.toList.drop (p' + 1)) 3 (o ++ [lettr 3])) := E.out
              have HOO := Lib.hid (own_ext (Ext.refl wr) hown)
              clear hown
              go_wp2_with (at_builtin; refine wpList_appB byteT (by rfl) _ _ (by rfl) w2.heap.size (.slice (some ⟨g, 0, none⟩) o.length c) o.length (u8s o) (by rfl) (HOO.out.alloc _) wr.heap.size 1 1 [.int .u8 (((lettr 3).toNat : Nat) : Int)] (by rfl) rfl (World.news_of_block (heap_alloc_new _ _)) (by simp [Value.oneCell']) (by omega) (by simp; omega) (by intro h; cases h) ?_; intro g5 c5 w5 own5 hg5)
              have B5 : Below w.heap.size w w5 := (Ext.more hb _).grown hg5 (by simp; omega) (fun z hz => by simp [Value.ownBlock] at hz; omega)
              have HO := Lib.hid (own_u8 own5 (Nat.le_refl _) (ys := u8s (o ++ [lettr 3])) (m := (o ++ [lettr 3]).length) (by rw [u8s_app]; rfl) (by simp))
              have HL : Hid ((o ++ [lettr 3]).length = o.length + 1) := by simp [Hid]
              clear own5 hg5
              go_wp2_with fail
              go_roundw
              case rel => exact ⟨p' + 1, 3, g5, c5, o ++ [lettr 3], by omega, by omega, by omega, by go_num, by go_num, by rw [HL.out], E2, by rw [HL.out]; omega, HO.out, B5⟩
              case measure => simp [intOf]; omega
            · have lt := ltr_at (show 0 < 4 by decide)
              have E2 : Hid (decA s.data.toList = dec (s.data.toList.drop (p' + 1)) 0 (o ++ [lettr 0])) := E.out
              have HOO := Lib.hid (own_ext (Ext.refl wr) hown)
              clear hown
              go_wp2_with (at_builtin; refine wpList_appB byteT (by rfl) _ _ (by rfl) w2.heap.size (.slice (some ⟨g, 0, none⟩) o.length c) o.length (u8s o) (by rfl) (HOO.out.alloc _) wr.heap.size 1 1 [.int .u8 (((lettr 0).toNat : Nat) : Int)] (by rfl) rfl (World.news_of_block (heap_alloc_new _ _)) (by simp [Value.oneCell']) (by omega) (by simp; omega) (by intro h; cases h) ?_; intro g5 c5 w5 own5 hg5)
              have B5 : Below w.heap.size w w5 := (Ext.more hb _).grown hg5 (by simp; omega) (fun z hz => by simp [Value.ownBlock] at hz; omega)
              have HO := Lib.hid (own_u8 own5 (Nat.le_refl _) (ys := u8s (o ++ [lettr 0])) (m := (o ++ [lettr 0]).length) (by rw [u8s_app]; rfl) (by simp))
              have HL : Hid ((o ++ [lettr 0]).length = o.length + 1) := by simp [Hid]
              clear own5 hg5
              go_wp2_with fail
              go_roundw
              case rel => exact ⟨p' + 1, 0, g5, c5, o ++ [lettr 0], by omega, by omega, by omega, by go_num, by go_num, by rw [HL.out], E2, by rw [HL.out]; omega, HO.out, B5⟩
              case measure => simp [intOf]; omega
          · have E := Lib.hid (D3.out hv2)
            clear D2 D3
            rcases hk3 with rfl | rfl | rfl | rfl
            · have lt := ltr_at (show 3 < 4 by decide)
              have E2 : Hid (decA s.data.toList = dec (s.data.toList.drop (p' + 1)) 3 (o ++ [lettr 3])) := E.out
              have HOO := Lib.hid (own_ext (Ext.refl wr) hown)
              clear hown
              go_wp2_with (at_builtin; refine wpList_appB byteT (by rfl) _ _ (by rfl) w2.heap.size (.slice (some ⟨g, 0, none⟩) o.length c) o.length (u8s o) (by rfl) (HOO.out.alloc _) wr.heap.size 1 1 [.int .u8 (((lettr 3).toNat : Nat) : Int)] (by rfl) rfl (World.news_of_block (heap_alloc_new _ _)) (by simp [Value.oneCell']) (by omega) (by simp; omega) (by intro h; cases h) ?_; intro g5 c5 w5 own5 hg5)
              have B5 : Below w.heap.size w w5 := (Ext.more hb _).grown hg5 (by simp; omega) (fun z hz => by simp [Value.ownBlock] at hz; omega)
              have HO := Lib.hid (own_u8 own5 (Nat.le_refl _) (ys := u8s (o ++ [lettr 3])) (m := (o ++ [lettr 3]).length) (by rw [u8s_app]; rfl) (by simp))
              have HL : Hid ((o ++ [lettr 3]).length = o.length + 1) := by simp [Hid]
              clear own5 hg5
              go_wp2_with fail
              go_roundw
              case rel => exact ⟨p' + 1, 3, g5, c5, o ++ [lettr 3], by omega, by omega, by omega, by go_num, by go_num, by rw [HL.out], E2, by rw [HL.out]; omega, HO.out, B5⟩
              case measure => simp [intOf]; omega
            · have lt := ltr_at (show 0 < 4 by decide)
              have E2 : Hid (decA s.data.toList = dec (s.data.toList.drop (p' + 1)) 0 (o ++ [lettr 0])) := E.out
              have HOO := Lib.hid (own_ext (Ext.refl wr) hown)
              clear hown
              go_wp2_with (at_builtin; refine wpList_appB byteT (by rfl) _ _ (by rfl) w2.heap.size (.slice (some ⟨g, 0, none⟩) o.length c) o.length (u8s o) (by rfl) (HOO.out.alloc _) wr.heap.size 1 1 [.int .u8 (((lettr 0).toNat : Nat) : Int)] (by rfl) rfl (World.news_of_block (heap_alloc_new _ _)) (by simp [Value.oneCell']) (by omega) (by simp; omega) (by intro h; cases h) ?_; intro g5 c5 w5 own5 hg5)
              have B5 : Below w.heap.size w w5 := (Ext.more hb _).grown hg5 (by simp; omega) (fun z hz => by simp [Value.ownBlock] at hz; omega)
              have HO := Lib.hid (own_u8 own5 (Nat.le_refl _) (ys := u8s (o ++ [lettr 0])) (m := (o ++ [lettr 0]).length) (by rw [u8s_app]; rfl) (by simp))
              have HL : Hid ((o ++ [lettr 0]).length = o.length + 1) := by simp [Hid]
              clear own5 hg5
              go_wp2_with fail
              go_roundw
              case rel => exact ⟨p' + 1, 0, g5, c5, o ++ [lettr 0], by omega, by omega, by omega, by go_num, by go_num, by rw [HL.out], E2, by rw [HL.out]; omega, HO.out, B5⟩
              case measure => simp [intOf]; omega
            · have lt := ltr_at (show 1 < 4 by decide)
              have E2 : Hid (decA s.data.toList = dec (s.data.toList.drop (p' + 1)) 1 (o ++ [lettr 1])) := E.out
              have HOO := Lib.hid (own_ext (Ext.refl wr) hown)
              clear hown
              go_wp2_with (at_builtin; refine wpList_appB byteT (by rfl) _ _ (by rfl) w2.heap.size (.slice (some ⟨g, 0, none⟩) o.length c) o.length (u8s o) (by rfl) (HOO.out.alloc _) wr.heap.size 1 1 [.int .u8 (((lettr 1).toNat : Nat) : Int)] (by rfl) rfl (World.news_of_block (heap_alloc_new _ _)) (by simp [Value.oneCell']) (by omega) (by simp; omega) (by intro h; cases h) ?_; intro g5 c5 w5 own5 hg5)
              have B5 : Below w.heap.size w w5 := (Ext.more hb _).grown hg5 (by simp; omega) (fun z hz => by simp [Value.ownBlock] at hz; omega)
              have HO := Lib.hid (own_u8 own5 (Nat.le_refl _) (ys := u8s (o ++ [lettr 1])) (m := (o ++ [lettr 1]).length) (by rw [u8s_app]; rfl) (by simp))
              have HL : Hid ((o ++ [lettr 1]).length = o.length + 1) := by simp [Hid]
              clear own5 hg5
              go_wp2_with fail
              go_roundw
              case rel => exact ⟨p' + 1, 1, g5, c5, o ++ [lettr 1], by omega, by omega, by omega, by go_num, by go_num, by rw [HL.out], E2, by rw [HL.out]; omega, HO.out, B5⟩
              case measure => simp [intOf]; omega
            · have lt := ltr_at (show 2 < 4 by decide)
              have E2 : Hid (decA s.data.toList = dec (s.data.toList.drop (p' + 1)) 2 (o ++ [lettr 2])) := E.out
              have HOO := Lib.hid (own_ext (Ext.refl wr) hown)
              clear hown
              go_wp2_with (at_builtin; refine wpList_appB byteT (by rfl) _ _ (by rfl) w2.heap.size (.slice (some ⟨g, 0, none⟩) o.length c) o.length (u8s o) (by rfl) (HOO.out.alloc _) wr.heap.size 1 1 [.int .u8 (((lettr 2).toNat : Nat) : Int)] (by rfl) rfl (World.news_of_block (heap_alloc_new _ _)) (by simp [Value.oneCell']) (by omega) (by simp; omega) (by intro h; cases h) ?_; intro g5 c5 w5 own5 hg5)
              have B5 : Below w.heap.size w w5 := (Ext.more hb _).grown hg5 (by simp; omega) (fun z hz => by simp [Value.ownBlock] at hz; omega)
              have HO := Lib.hid (own_u8 own5 (Nat.le_refl _) (ys := u8s (o ++ [lettr 2])) (m := (o ++ [lettr 2]).length) (by rw [u8s_app]; rfl) (by simp))
              have HL : Hid ((o ++ [lettr 2]).length = o.length + 1) := by simp [Hid]
              clear own5 hg5
              go_wp2_with fail
              go_roundw
              case rel => exact ⟨p' + 1, 2, g5, c5, o ++ [lettr 2], by omega, by omega, by omega, by go_num, by go_num, by rw [HL.out], E2, by rw [HL.out]; omega, HO.out, B5⟩
              case measure => simp [intOf]; omega
    · obtain rfl : p = s.size := by omega
      have hD2 : Hid (decA s.data.toList = (o, true)) := by
        rw [Hid, hD.out, List.drop_eq_nil_of_le (by show s.size ≤ s.size; omega)]; rfl
      have CV := str_of_own hown rfl
      have PK := PD.out
      rw [hD2.out] at PK
      simp only [if_pos, List.append_nil] at PK
      have HC := Lib.hid (own_cells hown rfl)
      have cle : o.length ≤ c := by
        rcases hown.2 with ⟨h, _⟩ | ⟨_, _, _, h, _, _, h1, _⟩
        · cases h
        · simp only [Value.slice.injEq] at h; omega
      have hol2 : o.length ≤ 2000 := by omega
      by_cases h6 : o.length ≤ 600
      · rw [if_pos h6] at PK
        have PKS := Lib.hid (packSteps_any ⟨o.toArray⟩ wr)
        have PV : Hid (pkV ⟨o.toArray⟩ = s ∧ pkB ⟨o.toArray⟩ = true) := pk_yes (s := ⟨o.toArray⟩) (o := s.data.toList) PK
        rw [PV.out.1, PV.out.2] at PKS
        have F : Hid (upV s = ⟨o.toArray⟩ ∧ upB s = true) := by
          have : upOk s.data.toList = true := by rw [UO.out, hD2.out]; simp [h6]
          exact ⟨by rw [upV, if_pos this, hD2.out], this⟩
        clear PK hown
        go_wp2_with fail
        refine PKS.out.mono ?_
        rintro e w4 ⟨rfl, hb4⟩
        have CL := Lib.hid (clip_any g o.length c w4 cle)
        have CV2 := str_of_cells (w := w4) (g := g) (c := o.length) (l := o) (fun j hj => (hb4.cell (p := ⟨g, j, none⟩) gl.2).trans (HC.out j hj))
        have HB := Ext.then_ hb hb4
        go_wp2_with fail
        refine CL.out.mono ?_
        rintro e w' ⟨rfl, rfl⟩
        go_wp2_with fail
        go_ret2
        exact ⟨ret_up F.out, HB⟩
      · rw [if_neg h6] at PK
        have PKS := Lib.hid (packSteps_any ⟨o.toArray⟩ wr)
        have PV : Hid (pkV ⟨o.toArray⟩ = ⟨#[]⟩ ∧ pkB ⟨o.toArray⟩ = false) := pk_no (s := ⟨o.toArray⟩) PK
        rw [PV.out.1, PV.out.2] at PKS
        have F := Lib.hid (up_no (s := s) (by rw [UO.out, hD2.out]; simp [h6]))
        clear PK hown
        go_wp2_with fail
        refine PKS.out.mono ?_
        rintro e w4 ⟨rfl, hb4⟩
        have HB := Ext.then_ hb hb4
        go_wp2_with fail
        go_ret2
        exact ⟨ret_up F.out, HB⟩
theorem lit_str (b : UInt8) (V : World) : (convert 30 9 (.slice (some ⟨V.heap.size, 0, none⟩) 1 1)).run Tryd.prog (V.alloc (.cells #[.int .u8 ((b.toNat : Nat) : Int)] 5)) = .ok (.string ⟨#[b]⟩) (V.alloc (.cells #[.int .u8 ((b.toNat : Nat) : Int)] 5)) :=
  str_of_own (l := [b]) (base := V.heap.size) (World.ownsRow_lit (e := 5) (size := 1) V #[.int .u8 ((b.toNat : Nat) : Int)] 1 (Nat.le_refl _) (by decide) rfl) rfl
theorem byte_not {b : UInt8} (h : ¬ (b = 48 ∨ b = 49)) : (((b.toNat : Nat) : Int) == 48) = false ∧ (((b.toNat : Nat) : Int) == 49) = false := by
  constructor
  · rw [beq_eq_false_iff_ne]; intro e; exact h (.inl (UInt8.toNat_inj.1 (by rw [show (48 : UInt8).toNat = 48 from rfl]; omega)))
  · rw [beq_eq_false_iff_ne]; intro e; exact h (.inr (UInt8.toNat_inj.1 (by rw [show (49 : UInt8).toNat = 49 from rfl]; omega)))
set_option maxRecDepth 100000 in
set_option maxHeartbeats 2000000 in
theorem unpackStepsS_any (s : ByteArray) (w : World) : Calls Tryd.prog 16 #[.string s] w fun e w' => e = .returned (.tuple #[.string (upV s), .bool (upB s)]) ∧ Below w.heap.size w w' := by
  have hlen : s.data.toList.length = s.size := rfl
  cases h1 : inB (s.size : Int) 2 2000
  · have F := Lib.hid (up_no (s := s) (by rw [upOk, hlen, h1]; rfl))
    have h2 := inB_not.1 h1
    by_cases h3 : (s.size : Int) < 2
    · clear h2 h1 hlen
      go_enter Tryd.func16, Tryd.ntmps16
      go_wp2_with fail
      go_ret2
      exact ⟨ret_up F.out, Ext.refl _⟩
    · have h4 : (2000 : Int) < (s.size : Int) := by omega
      clear h2 h1 hlen
      go_enter Tryd.func16, Tryd.ntmps16
      go_wp2_with fail
      go_ret2
      exact ⟨ret_up F.out, Ext.refl _⟩
  obtain ⟨n0, n1⟩ := inB_iff.1 h1
  have t1 : ¬ (s.size : Int) < 2 := by omega
  have t2 : ¬ (2000 : Int) < (s.size : Int) := by omega
  have s2 : 2 ≤ s.size := by omega
  have H1 := Lib.hid h1
  have DR := Lib.hid (fun k hk => drop_at s k hk)
  have CVL := Lib.hid (fun b V => lit_str b V)
  have ALL : Hid ((∀ (k : Nat) (h : k < s.size), s[k]'h = 48 ∨ s[k]'h = 49) → bitL s.data.toList) := fun h b hb => by
    obtain ⟨k, hk, rfl⟩ := List.getElem_of_mem hb
    exact h k hk
  have BAD : Hid (∀ (k : Nat) (h : k < s.size), ¬ (s[k]'h = 48 ∨ s[k]'h = 49) → upOk s.data.toList = false) := fun k hk h => by
    have : s.data.toList.all (fun b => b == 48 || b == 49) = false := by
      rw [← Bool.not_eq_true]; exact fun hh => h (bit_at (bits_iff.1 hh) k hk)
    rw [upOk, this]; simp
  clear h1 hlen
  go_enter Tryd.func16, Tryd.ntmps16
  go_wp2_with fail
  go_loop [4] (fun v => ∃ k : Nat, k ≤ s.size ∧ v = .int .i64 k ∧ Hid (∀ (j : Nat) (h : j < s.size), j < k → s[j]'h = 48 ∨ s[j]'h = 49)) (fun v => s.size - (intOf v).toNat)
  case atStart => exact ⟨0, Nat.zero_le _, rfl, fun j h hj => absurd hj (Nat.not_lt_zero _)⟩
  case round =>
    obtain ⟨k, hk, rfl, hall⟩ := hrel
    by_cases hlt : k < s.size
    · have p0 : (0 : Int) ≤ (k : Int) := by omega
      have p1 : (k : Int) < (s.size : Int) := by omega
      by_cases hbit : s[k] = 48 ∨ s[k] = 49
      · have W2 : Hid (∀ (j : Nat) (h : j < s.size), j < k + 1 → s[j]'h = 48 ∨ s[j]'h = 49) := fun j h hj => by
          rcases Nat.lt_succ_iff_lt_or_eq.1 hj with h2 | h2
          · exact hall.out j h h2
          · subst h2; exact hbit
        rcases hbit with h | h
        · have hv : ((s[k].toNat : Nat) : Int) = 48 := by rw [h]; rfl
          clear h
          go_wp2_with fail
          go_round
          case rel => exact ⟨k + 1, by omega, by go_num, W2⟩
          case measure => simp [intOf]; omega
        · have hv : ((s[k].toNat : Nat) : Int) = 49 := by rw [h]; rfl
          clear h
          go_wp2_with fail
          go_round
          case rel => exact ⟨k + 1, by omega, by go_num, W2⟩
          case measure => simp [intOf]; omega
      · have F := Lib.hid (up_no (s := s) (BAD.out k hlt hbit))
        obtain ⟨q1, q2⟩ := byte_not hbit
        have q3 : (((s[k].toNat : Nat) : Int) != 48) = true := by rw [bne, q1]; rfl
        have q4 : (((s[k].toNat : Nat) : Int) != 49) = true := by rw [bne, q2]; rfl
        clear hbit
        go_wp2_with fail
        go_ret2
        exact ⟨ret_up F.out, Ext.refl _⟩
    · obtain rfl : k = s.size := by omega
      have hbit := ALL.out (fun j h => hall.out j h h)
      have BA := Lib.hid (fun k hk => bit_at hbit k hk)
      have PD := Lib.hid (pk_dec (l := s.data.toList) s2 hbit)
      have UO : Hid (upOk s.data.toList = ((decA s.data.toList).2 && decide ((decA s.data.toList).1.length ≤ 600))) := by
        have := H1.out
        rw [Hid, upOk, show inB (s.data.toList.length : Int) 2 2000 = true from this, bits_iff.2 hbit]; rfl
      obtain ⟨κ, hκ⟩ : ∃ κ, fst2 s.data.toList = κ := ⟨_, rfl⟩
      have hk4 : κ < 4 := by rw [← hκ]; exact (decA_facts (l := s.data.toList) s2 hbit).1
      have DA : Hid (decA s.data.toList = dec (s.data.toList.drop 2) κ [lettr κ]) := by rw [Hid, decA, hκ]
      have KB : κ = (s[0]'(by omega)).toNat * 2 + (s[1]'(by omega)).toNat - 144 := by
        have a := byte_at s 0 (by omega)
        have b := byte_at s 1 (by omega)
        rw [← hκ, ← a, ← b]; rfl
      have g0 : ((s[0]'(by omega)).toNat : Int) = 48 ∨ ((s[0]'(by omega)).toNat : Int) = 49 := by
        rcases BA.out 0 (by omega) with h | h <;> rw [h] <;> decide
      have g1 : ((s[1]'(by omega)).toNat : Int) = 48 ∨ ((s[1]'(by omega)).toNat : Int) = 49 := by
        rcases BA.out 1 (by omega) with h | h <;> rw [h] <;> decide
      have i0 : (0 : Int) < (s.size : Int) := by omega
      have i1 : (1 : Int) < (s.size : Int) := by omega
      obtain ⟨x0, hx0⟩ : ∃ x0 : Nat, ((s[0]'(by omega)).toNat : Int) = 48 + x0 := by
        rcases g0 with h | h
        · exact ⟨0, by omega⟩
        · exact ⟨1, by omega⟩
      obtain ⟨x1, hx1⟩ : ∃ x1 : Nat, ((s[1]'(by omega)).toNat : Int) = 48 + x1 := by
        rcases g1 with h | h
        · exact ⟨0, by omega⟩
        · exact ⟨1, by omega⟩
      have e0 : IntKind.u8.wrap ((48 + (x0 : Int)) - 48) = (x0 : Int) := by
        rw [show (48 + (x0 : Int)) - 48 = x0 from by omega]
        have : x0 = 0 ∨ x0 = 1 := by omega
        rcases this with rfl | rfl <;> rfl
      have e1 : IntKind.u8.wrap ((48 + (x1 : Int)) - 48) = (x1 : Int) := by
        rw [show (48 + (x1 : Int)) - 48 = x1 from by omega]
        have : x1 = 0 ∨ x1 = 1 := by omega
        rcases this with rfl | rfl <;> rfl
      have e2 : IntKind.i64.wrap (x0 : Int) = (x0 : Int) := IntWalk.i64_in _ (by omega)
      have e3 : IntKind.i64.wrap (x1 : Int) = (x1 : Int) := IntWalk.i64_in _ (by omega)
      have e4 : IntKind.i64.wrap ((x0 : Int) * 2) = (x0 : Int) * 2 := IntWalk.i64_in _ (by omega)
      have e5 : IntKind.i64.wrap ((x0 : Int) * 2 + (x1 : Int)) = (κ : Int) := by rw [IntWalk.i64_in _ (by omega)]; omega
      clear g0 g1 hκ KB hbit hall ALL BAD
      go_wp2_with fail
      refine wp_region_held_quiet (fun U => Below w.heap.size w U) (by kernel_rfl) (by kernel_rfl) (Ext.refl _).drew ?_
      have ne : Nonempty (HeldW (fun U => Below w.heap.size w U)) := ⟨⟨w, Ext.refl _⟩⟩
      repeat (go_big_quiet_step (fail))
      refine wpQuiet_nil ?_
      intro w2 hw'
      obtain ⟨⟨_, hb2⟩, rfl⟩ := hw'
      clear ne 
      clear e0 e1 e2 e3 e4 e5 hx0 hx1
      have j0 : (0 : Int) ≤ (κ : Int) := by omega
      have j1 : (κ : Int) < 4 := by omega
      have lt := ltr_at hk4
      have CV := CVL.out (lettr κ) w2
      have HB2 := Ext.more hb2 (.cells #[.int .u8 (((lettr κ).toNat : Nat) : Int)] 5)
      go_wp2_with fail
      clear lt j0 j1 CV
      go_loopw [5, 6, 7] (fun kv v pv wr => ∃ (p κ : Nat) (o : List UInt8), 2 ≤ p ∧ p ≤ s.size + 1 ∧ κ < 4 ∧ kv = .int .i64 κ ∧ pv = .int .i64 p ∧ v = .string ⟨o.toArray⟩ ∧ Hid ((p ≤ s.size ∧ decA s.data.toList = dec (s.data.toList.drop p) κ o) ∨ (p = s.size + 1 ∧ decA s.data.toList = (o, false))) ∧ o.length ≤ p ∧ Below w.heap.size w wr) (fun _ _ pv _ => s.size + 1 - (intOf pv).toNat)
      case atStart => exact ⟨2, κ, [lettr κ], Nat.le_refl _, by omega, hk4, rfl, rfl, rfl, .inl ⟨s2, DA⟩, by simp, HB2⟩
      case round =>
        obtain ⟨p, κ2, o, hp2, hp, hk2, rfl, rfl, rfl, hDD, hol, hb⟩ := hrel
        clear HB2 hb2
        by_cases hlt : p < s.size
        · have hD : Hid (decA s.data.toList = dec (s.data.toList.drop p) κ2 o) := by
            rcases hDD.out with ⟨_, h⟩ | ⟨h, _⟩
            · exact h
            · omega
          have p0 : (0 : Int) ≤ (p : Int) := by omega
          have p1 : (p : Int) < (s.size : Int) := by omega
          have DP := DR.out p hlt
          clear hDD
          rcases BA.out p hlt with h48 | h49
          · have hv : ((s[p].toNat : Nat) : Int) = 48 := by rw [h48]; rfl
            have D2 : Hid ((p + 1 ≤ s.size ∧ decA s.data.toList = dec (s.data.toList.drop (p + 1)) κ2 (o ++ [lettr κ2])) ∨ (p + 1 = s.size + 1 ∧ decA s.data.toList = (o ++ [lettr κ2], false))) := .inl ⟨by omega, by rw [hD.out, DP, h48, dec_zero]⟩
            have lt := ltr_at hk2
            have j0 : (0 : Int) ≤ (κ2 : Int) := by omega
            have j1 : (κ2 : Int) < 4 := by omega
            clear DP h48 hD
            have F : Hid (ByteArray.mk o.toArray ++ ByteArray.mk #[lettr κ2] = ⟨(o ++ [lettr κ2]).toArray⟩) := bytes_app o [lettr κ2]
            have CV := CVL.out (lettr κ2) wr
            have t3 : ¬ 9223372036854775807 < o.length + 1 := by omega
            have HL : Hid ((o ++ [lettr κ2]).length = o.length + 1) := by simp [Hid]
            skip
            go_wp2_with fail
            go_roundw
            case rel => exact ⟨p + 1, κ2, o ++ [lettr κ2], by omega, by omega, by omega, by go_num, by go_num, by rw [F.out], D2, by rw [HL.out]; omega, Ext.more hb _⟩
            case measure => simp [intOf]; omega
          · have hv : ((s[p].toNat : Nat) : Int) = 49 := by rw [h49]; rfl
            have hk3 : κ2 = 0 ∨ κ2 = 1 ∨ κ2 = 2 ∨ κ2 = 3 := by omega
            obtain ⟨p', hp'⟩ : ∃ p', p + 1 = p' := ⟨_, rfl⟩
            have ep : (p : Int) + 1 = (p' : Int) := by omega
            by_cases hcut : p + 1 = s.size
            · have D3 : Hid ((p' + 1 ≤ s.size ∧ decA s.data.toList = dec (s.data.toList.drop (p' + 1)) ((κ2 + 3) % 4) (o ++ [lettr ((κ2 + 3) % 4)])) ∨ (p' + 1 = s.size + 1 ∧ decA s.data.toList = (o ++ [lettr ((κ2 + 3) % 4)], false))) := .inr ⟨by omega, by
                have e1 : s.data.toList.drop (p + 1) = [] := List.drop_eq_nil_of_le (by show s.size ≤ p + 1; omega)
                rw [hD.out, DP, h49, e1, dec_cut]⟩
              have q : ¬ (p' : Int) < (s.size : Int) := by omega
              clear DP h49 hD
              rcases hk3 with rfl | rfl | rfl | rfl
              · have lt := ltr_at (show 3 < 4 by decide)
                have E2 : Hid ((p' + 1 ≤ s.size ∧ decA s.data.toList = dec (s.data.toList.drop (p' + 1)) 3 (o ++ [lettr 3])) ∨ (p' + 1 = s.size + 1 ∧ decA s.data.toList = (o ++ [lettr 3], false))) := D3.out
                have F : Hid (ByteArray.mk o.toArray ++ ByteArray.mk #[lettr 3] = ⟨(o ++ [lettr 3]).toArray⟩) := bytes_app o [lettr 3]
                have CV := CVL.out (lettr 3) wr
                have t3 : ¬ 9223372036854775807 < o.length + 1 := by omega
                have HL : Hid ((o ++ [lettr 3]).length = o.length + 1) := by simp [Hid]
                skip
                go_wp2_with fail
                go_roundw
                case rel => exact ⟨p' + 1, 3, o ++ [lettr 3], by omega, by omega, by omega, by go_num, by go_num, by rw [F.out], E2, by rw [HL.out]; omega, Ext.more hb _⟩
                case measure => simp [intOf]; omega
              · have lt := ltr_at (show 0 < 4 by decide)
                have E2 : Hid ((p' + 1 ≤ s.size ∧ decA s.data.toList = dec (s.data.toList.drop (p' + 1)) 0 (o ++ [lettr 0])) ∨ (p' + 1 = s.size + 1 ∧ decA s.data.toList = (o ++ [lettr 0], false))) := D3.out
                have F : Hid (ByteArray.mk o.toArray ++ ByteArray.mk #[lettr 0] = ⟨(o ++ [lettr 0]).toArray⟩) := bytes_app o [lettr 0]
                have CV := CVL.out (lettr 0) wr
                have t3 : ¬ 9223372036854775807 < o.length + 1 := by omega
                have HL : Hid ((o ++ [lettr 0]).length = o.length + 1) := by simp [Hid]
                skip
                go_wp2_with fail
                go_roundw
                case rel => exact ⟨p' + 1, 0, o ++ [lettr 0], by omega, by omega, by omega, by go_num, by go_num, by rw [F.out], E2, by rw [HL.out]; omega, Ext.more hb _⟩
                case measure => simp [intOf]; omega
              · have lt := ltr_at (show 1 < 4 by decide)
                have E2 : Hid ((p' + 1 ≤ s.size ∧ decA s.data.toList = dec (s.data.toList.drop (p' + 1)) 1 (o ++ [lettr 1])) ∨ (p' + 1 = s.size + 1 ∧ decA s.data.toList = (o ++ [lettr 1], false))) := D3.out
                have F : Hid (ByteArray.mk o.toArray ++ ByteArray.mk #[lettr 1] = ⟨(o ++ [lettr 1]).toArray⟩) := bytes_app o [lettr 1]
                have CV := CVL.out (lettr 1) wr
                have t3 : ¬ 9223372036854775807 < o.length + 1 := by omega
                have HL : Hid ((o ++ [lettr 1]).length = o.length + 1) := by simp [Hid]
                skip
                go_wp2_with fail
                go_roundw
                case rel => exact ⟨p' + 1, 1, o ++ [lettr 1], by omega, by omega, by omega, by go_num, by go_num, by rw [F.out], E2, by rw [HL.out]; omega, Ext.more hb _⟩
                case measure => simp [intOf]; omega
              · have lt := ltr_at (show 2 < 4 by decide)
                have E2 : Hid ((p' + 1 ≤ s.size ∧ decA s.data.toList = dec (s.data.toList.drop (p' + 1)) 2 (o ++ [lettr 2])) ∨ (p' + 1 = s.size + 1 ∧ decA s.data.toList = (o ++ [lettr 2], false))) := D3.out
                have F : Hid (ByteArray.mk o.toArray ++ ByteArray.mk #[lettr 2] = ⟨(o ++ [lettr 2]).toArray⟩) := bytes_app o [lettr 2]
                have CV := CVL.out (lettr 2) wr
                have t3 : ¬ 9223372036854775807 < o.length + 1 := by omega
                have HL : Hid ((o ++ [lettr 2]).length = o.length + 1) := by simp [Hid]
                skip
                go_wp2_with fail
                go_roundw
                case rel => exact ⟨p' + 1, 2, o ++ [lettr 2], by omega, by omega, by omega, by go_num, by go_num, by rw [F.out], E2, by rw [HL.out]; omega, Ext.more hb _⟩
                case measure => simp [intOf]; omega
            · have hp1 : p + 1 < s.size := by omega
              have DP1 := DR.out (p + 1) hp1
              have p2 : (0 : Int) ≤ (p' : Int) := by omega
              have p3 : (p' : Int) < (s.size : Int) := by omega
              have hv2 : ((s[p']'(by omega)).toNat : Int) = 48 ∨ ((s[p']'(by omega)).toNat : Int) = 49 := by
                rcases BA.out p' (by omega) with h | h <;> rw [h] <;> decide
              have D2 : Hid (((s[p']'(by omega)).toNat : Int) = 48 → decA s.data.toList = dec (s.data.toList.drop (p' + 1)) ((κ2 + 1) % 4) (o ++ [lettr ((κ2 + 1) % 4)])) := fun h => by
                subst hp'
                have hc : s[p + 1] = 48 := UInt8.toNat_inj.1 (by rw [show (48 : UInt8).toNat = 48 from rfl]; omega)
                rw [hD.out, DP, h49, DP1, hc, dec_one, if_pos rfl]
              have D3 : Hid (((s[p']'(by omega)).toNat : Int) = 49 → decA s.data.toList = dec (s.data.toList.drop (p' + 1)) ((κ2 + 3) % 4) (o ++ [lettr ((κ2 + 3) % 4)])) := fun h => by
                subst hp'
                have hc : s[p + 1] = 49 := UInt8.toNat_inj.1 (by rw [show (49 : UInt8).toNat = 49 from rfl]; omega)
                rw [hD.out, DP, h49, DP1, hc, dec_one, if_neg (by decide)]
              clear DP h49 hD DP1 hcut
              rcases hv2 with hv2 | hv2
              · have E := Lib.hid (D2.out hv2)
                clear D2 D3
                rcases hk3 with rfl | rfl | rfl | rfl
                · have lt := ltr_at (show 1 < 4 by decide)
                  have E2 : Hid ((p' + 1 ≤ s.size ∧ decA s.data.toList = dec (s.data.toList.drop (p' + 1)) 1 (o ++ [lettr 1])) ∨ (p' + 1 = s.size + 1 ∧ decA s.data.toList = (o ++ [lettr 1], false))) := .inl ⟨by omega, E.out⟩
                  have F : Hid (ByteArray.mk o.toArray ++ ByteArray.mk #[lettr 1] = ⟨(o ++ [lettr 1]).toArray⟩) := bytes_app o [lettr 1]
                  have CV := CVL.out (lettr 1) wr
                  have t3 : ¬ 9223372036854775807 < o.length + 1 := by omega
                  have HL : Hid ((o ++ [lettr 1]).length = o.length + 1) := by simp [Hid]
                  skip
                  go_wp2_with fail
                  go_roundw
                  case rel => exact ⟨p' + 1, 1, o ++ [lettr 1], by omega, by omega, by omega, by go_num, by go_num, by rw [F.out], E2, by rw [HL.out]; omega, Ext.more hb _⟩
                  case measure => simp [intOf]; omega
                · have lt := ltr_at (show 2 < 4 by decide)
                  have E2 : Hid ((p' + 1 ≤ s.size ∧ decA s.data.toList = dec (s.data.toList.drop (p' + 1)) 2 (o ++ [lettr 2])) ∨ (p' + 1 = s.size + 1 ∧ decA s.data.toList = (o ++ [lettr 2], false))) := .inl ⟨by omega, E.out⟩
                  have F : Hid (ByteArray.mk o.toArray ++ ByteArray.mk #[lettr 2] = ⟨(o ++ [lettr 2]).toArray⟩) := bytes_app o [lettr 2]
                  have CV := CVL.out (lettr 2) wr
                  have t3 : ¬ 9223372036854775807 < o.length + 1 := by omega
                  have HL : Hid ((o ++ [lettr 2]).length = o.length + 1) := by simp [Hid]
                  skip
                  go_wp2_with fail
                  go_roundw
                  case rel => exact ⟨p' + 1, 2, o ++ [lettr 2], by omega, by omega, by omega, by go_num, by go_num, by rw [F.out], E2, by rw [HL.out]; omega, Ext.more hb _⟩
                  case measure => simp [intOf]; omega
                · have lt := ltr_at (show 3 < 4 by decide)
                  have E2 : Hid ((p' + 1 ≤ s.size ∧ decA s.data.toList = dec (s.data.toList.drop (p' + 1)) 3 (o ++ [lettr 3])) ∨ (p' + 1 = s.size + 1 ∧ decA s.data.toList = (o ++ [lettr 3], false))) := .inl ⟨by omega, E.out⟩
                  have F : Hid (ByteArray.mk o.toArray ++ ByteArray.mk #[lettr 3] = ⟨(o ++ [lettr 3]).toArray⟩) := bytes_app o [lettr 3]
                  have CV := CVL.out (lettr 3) wr
                  have t3 : ¬ 9223372036854775807 < o.length + 1 := by omega
                  have HL : Hid ((o ++ [lettr 3]).length = o.length + 1) := by simp [Hid]
                  skip
                  go_wp2_with fail
                  go_roundw
                  case rel => exact ⟨p' + 1, 3, o ++ [lettr 3], by omega, by omega, by omega, by go_num, by go_num, by rw [F.out], E2, by rw [HL.out]; omega, Ext.more hb _⟩
                  case measure => simp [intOf]; omega
                · have lt := ltr_at (show 0 < 4 by decide)
                  have E2 : Hid ((p' + 1 ≤ s.size ∧ decA s.data.toList = dec (s.data.toList.drop (p' + 1)) 0 (o ++ [lettr 0])) ∨ (p' + 1 = s.size + 1 ∧ decA s.data.toList = (o ++ [lettr 0], false))) := .inl ⟨by omega, E.out⟩
                  have F : Hid (ByteArray.mk o.toArray ++ ByteArray.mk #[lettr 0] = ⟨(o ++ [lettr 0]).toArray⟩) := bytes_app o [lettr 0]
                  have CV := CVL.out (lettr 0) wr
                  have t3 : ¬ 9223372036854775807 < o.length + 1 := by omega
                  have HL : Hid ((o ++ [lettr 0]).length = o.length + 1) := by simp [Hid]
                  skip
                  go_wp2_with fail
                  go_roundw
                  case rel => exact ⟨p' + 1, 0, o ++ [lettr 0], by omega, by omega, by omega, by go_num, by go_num, by rw [F.out], E2, by rw [HL.out]; omega, Ext.more hb _⟩
                  case measure => simp [intOf]; omega
              · have E := Lib.hid (D3.out hv2)
                clear D2 D3
                rcases hk3 with rfl | rfl | rfl | rfl
                · have lt := ltr_at (show 3 < 4 by decide)
                  have E2 : Hid ((p' + 1 ≤ s.size ∧ decA s.data.toList = dec (s.data.toList.drop (p' + 1)) 3 (o ++ [lettr 3])) ∨ (p' + 1 = s.size + 1 ∧ decA s.data.toList = (o ++ [lettr 3], false))) := .inl ⟨by omega, E.out⟩
                  have F : Hid (ByteArray.mk o.toArray ++ ByteArray.mk #[lettr 3] = ⟨(o ++ [lettr 3]).toArray⟩) := bytes_app o [lettr 3]
                  have CV := CVL.out (lettr 3) wr
                  have t3 : ¬ 9223372036854775807 < o.length + 1 := by omega
                  have HL : Hid ((o ++ [lettr 3]).length = o.length + 1) := by simp [Hid]
                  skip
                  go_wp2_with fail
                  go_roundw
                  case rel => exact ⟨p' + 1, 3, o ++ [lettr 3], by omega, by omega, by omega, by go_num, by go_num, by rw [F.out], E2, by rw [HL.out]; omega, Ext.more hb _⟩
                  case measure => simp [intOf]; omega
                · have lt := ltr_at (show 0 < 4 by decide)
                  have E2 : Hid ((p' + 1 ≤ s.size ∧ decA s.data.toList = dec (s.data.toList.drop (p' + 1)) 0 (o ++ [lettr 0])) ∨ (p' + 1 = s.size + 1 ∧ decA s.data.toList = (o ++ [lettr 0], false))) := .inl ⟨by omega, E.out⟩
                  have F : Hid (ByteArray.mk o.toArray ++ ByteArray.mk #[lettr 0] = ⟨(o ++ [lettr 0]).toArray⟩) := bytes_app o [lettr 0]
                  have CV := CVL.out (lettr 0) wr
                  have t3 : ¬ 9223372036854775807 < o.length + 1 := by omega
                  have HL : Hid ((o ++ [lettr 0]).length = o.length + 1) := by simp [Hid]
                  skip
                  go_wp2_with fail
                  go_roundw
                  case rel => exact ⟨p' + 1, 0, o ++ [lettr 0], by omega, by omega, by omega, by go_num, by go_num, by rw [F.out], E2, by rw [HL.out]; omega, Ext.more hb _⟩
                  case measure => simp [intOf]; omega
                · have lt := ltr_at (show 1 < 4 by decide)
                  have E2 : Hid ((p' + 1 ≤ s.size ∧ decA s.data.toList = dec (s.data.toList.drop (p' + 1)) 1 (o ++ [lettr 1])) ∨ (p' + 1 = s.size + 1 ∧ decA s.data.toList = (o ++ [lettr 1], false))) := .inl ⟨by omega, E.out⟩
                  have F : Hid (ByteArray.mk o.toArray ++ ByteArray.mk #[lettr 1] = ⟨(o ++ [lettr 1]).toArray⟩) := bytes_app o [lettr 1]
                  have CV := CVL.out (lettr 1) wr
                  have t3 : ¬ 9223372036854775807 < o.length + 1 := by omega
                  have HL : Hid ((o ++ [lettr 1]).length = o.length + 1) := by simp [Hid]
                  skip
                  go_wp2_with fail
                  go_roundw
                  case rel => exact ⟨p' + 1, 1, o ++ [lettr 1], by omega, by omega, by omega, by go_num, by go_num, by rw [F.out], E2, by rw [HL.out]; omega, Ext.more hb _⟩
                  case measure => simp [intOf]; omega
                · have lt := ltr_at (show 2 < 4 by decide)
                  have E2 : Hid ((p' + 1 ≤ s.size ∧ decA s.data.toList = dec (s.data.toList.drop (p' + 1)) 2 (o ++ [lettr 2])) ∨ (p' + 1 = s.size + 1 ∧ decA s.data.toList = (o ++ [lettr 2], false))) := .inl ⟨by omega, E.out⟩
                  have F : Hid (ByteArray.mk o.toArray ++ ByteArray.mk #[lettr 2] = ⟨(o ++ [lettr 2]).toArray⟩) := bytes_app o [lettr 2]
                  have CV := CVL.out (lettr 2) wr
                  have t3 : ¬ 9223372036854775807 < o.length + 1 := by omega
                  have HL : Hid ((o ++ [lettr 2]).length = o.length + 1) := by simp [Hid]
                  skip
                  go_wp2_with fail
                  go_roundw
                  case rel => exact ⟨p' + 1, 2, o ++ [lettr 2], by omega, by omega, by omega, by go_num, by go_num, by rw [F.out], E2, by rw [HL.out]; omega, Ext.more hb _⟩
                  case measure => simp [intOf]; omega
        · have PKS := Lib.hid (stepsS_any ⟨o.toArray⟩ wr)
          have q0 : ¬ (p : Int) < (s.size : Int) := by omega
          have PK := PD.out
          rcases hDD.out with ⟨hp9, hD⟩ | ⟨_, hD⟩
          · obtain rfl : p = s.size := by omega
            have hD2 : Hid (decA s.data.toList = (o, true)) := by
              rw [Hid, hD, List.drop_eq_nil_of_le (by show s.size ≤ s.size; omega)]; rfl
            rw [hD2.out] at PK
            simp only [if_pos, List.append_nil] at PK
            by_cases h6 : o.length ≤ 600
            · rw [if_pos h6] at PK
              have PV : Hid (pkV ⟨o.toArray⟩ = s ∧ pkB ⟨o.toArray⟩ = true) := pk_yes (s := ⟨o.toArray⟩) (o := s.data.toList) PK
              rw [PV.out.1, PV.out.2] at PKS
              have F : Hid (upV s = ⟨o.toArray⟩ ∧ upB s = true) := by
                have : upOk s.data.toList = true := by rw [UO.out, hD2.out]; simp [h6]
                exact ⟨by rw [upV, if_pos this, hD2.out], this⟩
              clear PK hD hDD
              go_wp2_with fail
              refine PKS.out.mono ?_
              rintro e w4 ⟨rfl, hb4⟩
              have HB := Ext.then_ hb hb4
              go_wp2_with fail
              go_ret2
              exact ⟨ret_up F.out, HB⟩
            · rw [if_neg h6] at PK
              have PV : Hid (pkV ⟨o.toArray⟩ = ⟨#[]⟩ ∧ pkB ⟨o.toArray⟩ = false) := pk_no (s := ⟨o.toArray⟩) PK
              rw [PV.out.1, PV.out.2] at PKS
              have F := Lib.hid (up_no (s := s) (by rw [UO.out, hD2.out]; simp [h6]))
              clear PK hD hDD
              go_wp2_with fail
              refine PKS.out.mono ?_
              rintro e w4 ⟨rfl, hb4⟩
              have HB := Ext.then_ hb hb4
              go_wp2_with fail
              go_ret2
              exact ⟨ret_up F.out, HB⟩
          · have F := Lib.hid (up_no (s := s) (by rw [UO.out, hD]; rfl))
            rw [hD] at PK
            by_cases h6 : o.length ≤ 600
            · have PK2 : pkR (ByteArray.mk o.toArray).data.toList = some (s.data.toList ++ [49]) := by
                rw [if_pos h6] at PK; exact PK
              have PV : Hid (pkV ⟨o.toArray⟩ = ⟨(s.data.toList ++ [49]).toArray⟩ ∧ pkB ⟨o.toArray⟩ = true) := pk_yes (s := ⟨o.toArray⟩) PK2
              have NE : (ByteArray.toList ⟨(s.data.toList ++ [49]).toArray⟩ == s.toList) = false := by
                rw [ByteArray.toList_eq, ByteArray.toList_eq, beq_eq_false_iff_ne]
                intro h
                have := congrArg List.length h
                simp at this
              rw [PV.out.1, PV.out.2] at PKS
              generalize ByteArray.mk (s.data.toList ++ [49]).toArray = bk at *
              clear PK hD hDD PK2 PV
              go_wp2_with fail
              refine PKS.out.mono ?_
              rintro e w4 ⟨rfl, hb4⟩
              have HB := Ext.then_ hb hb4
              go_wp2_with fail
              go_ret2
              exact ⟨ret_up F.out, HB⟩
            · have PK2 : pkR (ByteArray.mk o.toArray).data.toList = none := by rw [if_neg h6] at PK; exact PK
              have PV : Hid (pkV ⟨o.toArray⟩ = ⟨#[]⟩ ∧ pkB ⟨o.toArray⟩ = false) := pk_no (s := ⟨o.toArray⟩) PK2
              rw [PV.out.1, PV.out.2] at PKS
              clear PK hD hDD PK2 PV
              go_wp2_with fail
              refine PKS.out.mono ?_
              rintro e w4 ⟨rfl, hb4⟩
              have HB := Ext.then_ hb hb4
              go_wp2_with fail
              go_ret2
              exact ⟨ret_up F.out, HB⟩
end Go.Proofs.YtogefmkplkddoaaDoor

namespace Go.Proofs.YtogefmkplkddoaaDoor
open Go.RowKit

/-- A call has returned numbers of memory of its own, none where there are none. -/
def NmRes (w : World) (s : ByteArray) (e : Ending) (w' : World) : Prop :=
  ∃ A c, e = .returned (.tuple #[.slice A (nmO s).length c, .bool (nmB s)]) ∧ w'.ownsRow w.heap.size 2 1 (.slice A (nmO s).length c) (nmO s).length (ints (nmO s)) ∧ Below w.heap.size w w'
theorem own_nil (w : World) (lo : Nat) (e : TypeId) (s : Nat) : w.ownsRow lo e s (.slice none 0 0) 0 [] := ⟨by simp, .inl ⟨rfl, rfl⟩⟩
theorem nm_no {s : ByteArray} (h : nmR s = none) : nmO s = [] ∧ nmB s = false := by simp [nmO, nmB, h]
theorem nm_yes {s : ByteArray} {o : List Int} (h : nmR s = some o) : nmO s = o ∧ nmB s = true := by simp [nmO, nmB, h]
theorem NmRes.no {w w' : World} {s : ByteArray} (h : nmO s = [] ∧ nmB s = false) (hb : Below w.heap.size w w') : NmRes w s (.returned (.tuple #[.slice none 0 0, .bool false])) w' := by
  unfold NmRes
  rw [h.1, h.2]
  exact ⟨none, 0, rfl, own_nil _ _ _ _, hb⟩
theorem getD_drop (s : ByteArray) (i j : Nat) (h : i + j < s.size) : (s.data.toList.drop i).getD j 0 = s[i + j] := by
  rw [← byte_at s (i + j) h]
  simp only [List.getD_eq_getElem?_getD, List.getElem?_drop]
theorem own_i64 {w : World} {base base' g n cap : Nat} {xs : List Value} (h : w.ownsRow base 2 1 (.slice (some ⟨g, 0, none⟩) n cap) n xs) (hb : base' ≤ base) {ys : List Value} {m : Nat} (hx : xs = ys) (hn : n = m) : w.ownsRow base' 2 1 (.slice (some ⟨g, 0, none⟩) m cap) m ys := by
  subst hx hn; exact own_base h hb
theorem ints_snoc (o : List Int) (n : Int) : ints (o ++ [n]) = ints o ++ [.int .i64 n] := by simp [ints]
def NsRes (w : World) (s : ByteArray) (e : Ending) (w' : World) : Prop :=
  ∃ (g c : Nat) (o : List Int), e = .returned (.tuple #[.slice (some ⟨g, 0, none⟩) o.length c, .bool (nmB s)]) ∧ (nmB s = true → nmO s = o) ∧ w'.ownsRow w.heap.size 2 1 (.slice (some ⟨g, 0, none⟩) o.length c) o.length (ints o) ∧ Below w.heap.size w w'
theorem NsRes.no {w w' : World} {s : ByteArray} {g c : Nat} {o : List Int} (h : nmB s = false) (ho : w'.ownsRow w.heap.size 2 1 (.slice (some ⟨g, 0, none⟩) o.length c) o.length (ints o)) (hb : Below w.heap.size w w') : NsRes w s (.returned (.tuple #[.slice (some ⟨g, 0, none⟩) o.length c, .bool false])) w' := by
  refine ⟨g, c, o, by rw [h], (fun h2 => by rw [h] at h2; cases h2), ho, hb⟩
theorem NsRes.yes {w w' : World} {s : ByteArray} {g c : Nat} {o : List Int} (h : nmO s = o ∧ nmB s = true) (ho : w'.ownsRow w.heap.size 2 1 (.slice (some ⟨g, 0, none⟩) o.length c) o.length (ints o)) (hb : Below w.heap.size w w') : NsRes w s (.returned (.tuple #[.slice (some ⟨g, 0, none⟩) o.length c, .bool true])) w' :=
  ⟨g, c, o, by rw [h.2], (fun _ => h.1), ho, hb⟩
theorem all_take {bs : List UInt8} {m : Nat} (hm : m ≤ bs.length) : ((bs.take m).all fun b => b == 48 || b == 49) = true ↔ ∀ a, a < m → bs.getD a 0 = 48 ∨ bs.getD a 0 = 49 := by
  rw [List.all_eq_true]
  constructor
  · intro h a ha
    have e : bs.getD a 0 = bs[a]'(by omega) := by rw [List.getD_eq_getElem?_getD, List.getElem?_eq_getElem (by omega)]; rfl
    rw [e]
    have := h (bs[a]'(by omega)) (by
      have h2 : a < (bs.take m).length := by rw [List.length_take]; omega
      have := List.getElem_mem h2
      rwa [List.getElem_take] at this)
    simpa using this
  · intro h b hb
    obtain ⟨a, ha, rfl⟩ := List.getElem_of_mem hb
    rw [List.length_take] at ha
    have e : bs.getD a 0 = bs[a]'(by omega) := by rw [List.getD_eq_getElem?_getD, List.getElem?_eq_getElem (by omega)]; rfl
    have := h a (by omega)
    rw [e] at this
    rw [List.getElem_take]
    simpa using this
theorem map_snoc (o : List Int) (n : Int) (x : Option (List Int)) : (x.map (n :: ·)).map (o ++ ·) = x.map ((o ++ [n]) ++ ·) := by
  cases x <;> simp
set_option maxRecDepth 100000 in
set_option maxHeartbeats 2000000 in
theorem l10numbers_any (s : ByteArray) (w : World) (hs : s.size ≤ 1000000000) : Calls Tryd.prog 36 #[.string s] w (NsRes w s) := by
  have hlen : s.data.toList.length = s.size := rfl
  obtain ⟨w1, hw1⟩ : ∃ w1, w.alloc (.cells #[] 2) = w1 := ⟨_, rfl⟩
  have O1 : w1.ownsRow w.heap.size 2 1 (.slice (some ⟨w.heap.size, 0, none⟩) 0 0) 0 (ints []) := by rw [← hw1]; exact World.ownsRow_lit (e := 2) (size := 1) w #[] 0 (Nat.le_refl _) (by decide) rfl
  have B1 : Below w.heap.size w w1 := by rw [← hw1]; exact Ext.more (Ext.refl _) _
  have HW1 := Lib.hid hw1
  clear hw1
  by_cases hbig : 2000 < s.size
  · have t0 : (2000 : Int) < (s.size : Int) := by omega
    have F := Lib.hid (nm_no (s := s) (by rw [nmR, if_neg (by omega)]))
    have HO := Lib.hid O1
    clear O1 hlen
    go_enter Tryd.func36, Tryd.ntmps36
    go_wp2_with fail
    try simp only [HW1.out]
    go_ret2
    exact NsRes.no F.out.2 HO.out B1
  have t0 : ¬ (2000 : Int) < (s.size : Int) := by omega
  have RR : Hid (nmR s = nmV s.data.toList) := by rw [Hid, nmR, if_pos (by omega)]
  have V0 : Hid (nmV s.data.toList = (nmV (s.data.toList.drop 0)).map (([] : List Int) ++ ·)) := by
    rw [Hid, List.drop_zero]; cases nmV s.data.toList <;> rfl
  have GD := Lib.hid (fun i j h => getD_drop s i j h)
  have HLN := Lib.hid hlen
  clear hlen
  go_enter Tryd.func36, Tryd.ntmps36
  go_wp2_with fail
  try simp only [HW1.out]
  go_loopw [4, 5, 6, 7, 8] (fun ov iv _ _ _ wr => ∃ (i g c : Nat) (o : List Int), i ≤ s.size ∧ iv = .int .i64 i ∧ ov = .slice (some ⟨g, 0, none⟩) o.length c ∧ Hid (nmV s.data.toList = (nmV (s.data.toList.drop i)).map (o ++ ·)) ∧ o.length ≤ i ∧
    wr.ownsRow w.heap.size 2 1 (.slice (some ⟨g, 0, none⟩) o.length c) o.length (ints o) ∧ Below w.heap.size w wr) (fun _ iv _ _ _ _ => s.size - (intOf iv).toNat)
  case atStart => exact ⟨0, _, _, [], Nat.zero_le _, rfl, rfl, V0, Nat.le_refl _, O1, B1⟩
  case round =>
    obtain ⟨i, g, c, o, hi, rfl, rfl, hV, hol, hown, hb⟩ := hrel
    clear O1 B1
    have HOW := Lib.hid hown
    have gl := hown.lt g rfl
    clear hown
    by_cases hlt : i < s.size
    · have i0 : (0 : Int) ≤ (i : Int) := by omega
      have i1 : (i : Int) < (s.size : Int) := by omega
      have NE : Hid (s.data.toList.drop i ≠ []) := fun e => by
        have := congrArg List.length e
        rw [List.length_drop] at this
        have h2 := HLN.out
        simp at this; omega
      have LEN : Hid ((s.data.toList.drop i).length = s.size - i) := by rw [Hid, List.length_drop]; have := HLN.out; omega
      have BADR : Hid (nmStep (s.data.toList.drop i) = none → nmB s = false) := fun h => by
        refine (nm_no ?_).2
        rw [RR.out, hV.out, nmV_bad NE.out h]; rfl
      go_wp2_with fail
      go_loop [6] (fun zv => ∃ z : Nat, i + z ≤ s.size ∧ zv = .int .i64 z ∧ Hid (∀ j, j < z → (s.data.toList.drop i).getD j 0 = 48)) (fun zv => s.size - (intOf zv).toNat)
      case atStart => exact ⟨0, by omega, rfl, fun j h => absurd h (Nat.not_lt_zero _)⟩
      case round =>
        obtain ⟨z, hz, rfl, hzs⟩ := hrel
        obtain ⟨p, hp⟩ : ∃ p, i + z = p := ⟨_, rfl⟩
        have ep : (i : Int) + (z : Int) = (p : Int) := by omega
        by_cases hpl : p < s.size
        · have p0 : (0 : Int) ≤ (p : Int) := by omega
          have p1 : (p : Int) < (s.size : Int) := by omega
          have gp := GD.out i z (by omega)
          by_cases h48 : s[p] = 48
          · have hv : ((s[p].toNat : Nat) : Int) = 48 := by rw [h48]; rfl
            have ZN : Hid (∀ j, j < z + 1 → (s.data.toList.drop i).getD j 0 = 48) := fun j hj => by
              rcases Nat.lt_succ_iff_lt_or_eq.1 hj with h | h
              · exact hzs.out j h
              · subst h; rw [gp]; subst hp; exact h48
            clear gp h48
            go_wp2_with fail
            go_round
            case rel => exact ⟨z + 1, by omega, by go_num, ZN⟩
            case measure => simp [intOf]; omega
          · have hv : (((s[p].toNat : Nat) : Int) == 48) = false := by
              rw [beq_eq_false_iff_ne]; intro e; exact h48 (UInt8.toNat_inj.1 (by rw [show (48 : UInt8).toNat = 48 from rfl]; omega))
            have ZR : Hid (zrs (s.data.toList.drop i) = z) := zrs_is (by rw [LEN.out]; omega) hzs.out (fun _ => by rw [gp]; subst hp; exact h48)
            clear gp h48
            have zlt : z < s.size - i := by omega
            by_cases h29 : 29 < z
            · have F := Lib.hid (BADR.out (by rw [nmStep, if_pos]; rw [ZR.out]; exact .inl h29))
              have q2 : (29 : Int) < (z : Int) := by omega
              go_wp2_with fail
              go_ret2
              exact NsRes.no F.out HOW.out hb
            have q2 : ¬ (29 : Int) < (z : Int) := by omega
            by_cases hsh : s.size < i + (2 * z + 1)
            · have F := Lib.hid (BADR.out (by rw [nmStep, if_pos]; rw [ZR.out, LEN.out]; omega))
              have q3 : (s.size : Int) < (i : Int) + 2 * (z : Int) + 1 := by omega
              go_wp2_with fail
              go_ret2
              exact NsRes.no F.out HOW.out hb
            have q3 : ¬ (s.size : Int) < (i : Int) + 2 * (z : Int) + 1 := by omega
            have BS : Hid (∀ j (h : j < z + 1), (s.data.toList.drop p).getD j 0 = s[p + j]'(by omega)) := fun j h => GD.out p j (by omega)
            have DD : Hid ((s.data.toList.drop i).drop z = s.data.toList.drop p) := by rw [Hid, List.drop_drop, hp]
            have PL : Hid ((s.data.toList.drop p).length = s.size - p) := by rw [Hid, List.length_drop]; have := HLN.out; omega
            go_wp2_with fail
            go_loop [7, 8] (fun nv kv => ∃ j : Nat, j ≤ z + 1 ∧ kv = .int .i64 ((p : Int) + (j : Int)) ∧ nv = .int .i64 ((vTo (s.data.toList.drop p) j : Nat) : Int) ∧ Hid (∀ a, a < j → (s.data.toList.drop p).getD a 0 = 48 ∨ (s.data.toList.drop p).getD a 0 = 49) ∧ vTo (s.data.toList.drop p) j < 2 ^ j) (fun _ kv => s.size + 1 - (intOf kv).toNat)
            case atStart => exact ⟨0, by omega, by go_num, rfl, (fun a h => absurd h (Nat.not_lt_zero _)), Nat.one_pos⟩
            case round =>
              obtain ⟨j, hj, rfl, rfl, hbits, hv2⟩ := hrel
              have hpw : 2 ^ j ≤ 2 ^ 30 := Nat.pow_le_pow_right (by decide) (by omega)
              have hv30 : vTo (s.data.toList.drop p) j < 1073741824 := Nat.lt_of_lt_of_le hv2 hpw
              have VS : Hid (vTo (s.data.toList.drop p) (j + 1) = 2 * vTo (s.data.toList.drop p) j + (((s.data.toList.drop p).getD j 0).toNat - 48)) := rfl
              have P2 : Hid (2 ^ (j + 1) = 2 * 2 ^ j) := by rw [Hid, Nat.pow_succ]; omega
              by_cases hjl : j < z + 1
              · have bj := BS.out j hjl
                obtain ⟨k, hk⟩ : ∃ k, p + j = k := ⟨_, rfl⟩
                have ek : (p : Int) + (j : Int) = (k : Int) := by omega
                have hks : k < s.size := by omega
                have bk : (s.data.toList.drop p).getD j 0 = s[k] := by rw [bj]; subst hk; rfl
                have k0 : (0 : Int) ≤ (k : Int) := by omega
                have k1 : (k : Int) < (s.size : Int) := by omega
                have q4 : (k : Int) ≤ (i : Int) + 2 * (z : Int) := by omega
                by_cases hbit : s[k] = 48 ∨ s[k] = 49
                · have B2 : Hid (∀ a, a < j + 1 → (s.data.toList.drop p).getD a 0 = 48 ∨ (s.data.toList.drop p).getD a 0 = 49) := fun a ha => by
                    rcases Nat.lt_succ_iff_lt_or_eq.1 ha with h | h
                    · exact hbits.out a h
                    · subst h; rw [bk]; exact hbit
                  rcases hbit with h | h
                  · have hv : ((s[k].toNat : Nat) : Int) = 48 := by rw [h]; rfl
                    have VT : Hid (vTo (s.data.toList.drop p) (j + 1) = 2 * vTo (s.data.toList.drop p) j) := by rw [Hid, VS.out, bk, h]; rfl
                    have L2 : Hid (vTo (s.data.toList.drop p) (j + 1) < 2 ^ (j + 1)) := by rw [Hid, VT.out, P2.out]; omega
                    clear h bk bj VS hpw
                    generalize vTo (s.data.toList.drop p) j = v at *
                    go_wp2_with fail
                    go_round
                    case rel => exact ⟨j + 1, by omega, by go_num, by rw [VT.out]; go_num, B2, L2.out⟩
                    case measure => simp [intOf]; omega
                  · have hv : ((s[k].toNat : Nat) : Int) = 49 := by rw [h]; rfl
                    have VT : Hid (vTo (s.data.toList.drop p) (j + 1) = 2 * vTo (s.data.toList.drop p) j + 1) := by rw [Hid, VS.out, bk, h]; rfl
                    have L2 : Hid (vTo (s.data.toList.drop p) (j + 1) < 2 ^ (j + 1)) := by rw [Hid, VT.out, P2.out]; omega
                    clear h bk bj VS hpw
                    generalize vTo (s.data.toList.drop p) j = v at *
                    go_wp2_with fail
                    go_round
                    case rel => exact ⟨j + 1, by omega, by go_num, by rw [VT.out]; go_num, B2, L2.out⟩
                    case measure => simp [intOf]; omega
                · have F := Lib.hid (BADR.out (by
                    rw [nmStep]
                    split
                    · rfl
                    · rw [if_neg]
                      intro hh
                      have h2 := hh.1
                      rw [ZR.out, DD.out] at h2
                      have := (all_take (by rw [PL.out]; omega)).1 h2 j hjl
                      rw [bk] at this
                      exact hbit this))
                  obtain ⟨q5, q6⟩ := byte_not hbit
                  have q7 : (((s[k].toNat : Nat) : Int) != 48) = true := by rw [bne, q5]; rfl
                  have q8 : (((s[k].toNat : Nat) : Int) != 49) = true := by rw [bne, q6]; rfl
                  clear bk bj VS hpw hbit
                  generalize vTo (s.data.toList.drop p) j = v at *
                  go_wp2_with fail
                  go_ret2
                  exact NsRes.no F.out HOW.out hb
              · obtain rfl : j = z + 1 := by omega
                have q4 : ¬ (p : Int) + ((z + 1 : Nat) : Int) ≤ (i : Int) + 2 * (z : Int) := by omega
                have q4' : ¬ (p : Int) + ((z : Int) + 1) ≤ (i : Int) + 2 * (z : Int) := by omega
                have ALL := (all_take (bs := s.data.toList.drop p) (m := z + 1) (by rw [PL.out]; omega)).2 hbits.out
                have ST : Hid (nmStep (s.data.toList.drop i) = if vTo (s.data.toList.drop p) (z + 1) ≤ 1000000000 then some (vTo (s.data.toList.drop p) (z + 1), s.data.toList.drop (i + (2 * z + 1))) else none) := by
                  rw [Hid, nmStep, if_neg (by rw [ZR.out, LEN.out]; omega), ZR.out, DD.out, ALL, List.drop_drop]
                  simp
                clear ALL VS hpw hv2
                generalize vTo (s.data.toList.drop p) (z + 1) = v at *
                by_cases hmax : v ≤ 1000000000
                · have V2 : Hid (nmV s.data.toList = (nmV (s.data.toList.drop (i + (2 * z + 1)))).map ((o ++ [(v : Int)]) ++ ·)) := by
                    rw [Hid, hV.out, nmV_good NE.out (by rw [ST.out, if_pos hmax]), map_snoc]
                  have q5 : ¬ (1000000000 : Int) < (v : Int) := by omega
                  have HL : Hid ((o ++ [(v : Int)]).length = o.length + 1) := by simp [Hid]
                  have hbz := hb.size
                  go_wp2_with (at_builtin; refine wpList_app intT (by rfl) _ _ (by rfl) w.heap.size (.slice (some ⟨g, 0, none⟩) o.length c) o.length (ints o) (by rfl) (HOW.out.alloc _) wr.heap.size #[.int .i64 v] (by rfl) (heap_alloc_new _ _) rfl (by simp [Value.oneCell']) (by omega) (by simp; omega) ?_; intro g5 c5 w5 own5 hg5 hat5 hlt5)
                  have B5 : Below w.heap.size w w5 := (Ext.more hb _).grown hg5 (by simp; omega) (fun z hz => by simp [Value.ownBlock] at hz; omega)
                  have HO := Lib.hid (own_i64 own5 (Nat.le_refl _) (ys := ints (o ++ [(v : Int)])) (m := (o ++ [(v : Int)]).length) (by rw [ints_snoc]) (by simp))
                  clear own5 hg5 hat5 hlt5
                  go_wp2_with fail
                  go_roundw
                  case rel => exact ⟨i + (2 * z + 1), g5, c5, o ++ [(v : Int)], by omega, by go_num, by rw [HL.out], V2, by rw [HL.out]; omega, HO.out, B5⟩
                  case measure => simp [intOf]; omega
                · have F := Lib.hid (BADR.out (by rw [ST.out, if_neg hmax]))
                  have q5 : (1000000000 : Int) < (v : Int) := by omega
                  go_wp2_with fail
                  go_ret2
                  exact NsRes.no F.out HOW.out hb
        · have zs : z = s.size - i := by omega
          have ZR : Hid (zrs (s.data.toList.drop i) = z) := zrs_is (by rw [LEN.out]; omega) hzs.out (fun h => by rw [LEN.out] at h; omega)
          have F := Lib.hid (BADR.out (by rw [nmStep, if_pos]; rw [ZR.out, LEN.out]; omega))
          have q1 : ¬ (p : Int) < (s.size : Int) := by omega
          by_cases h29 : 29 < z
          · have q2 : (29 : Int) < (z : Int) := by omega
            go_wp2_with fail
            go_ret2
            exact NsRes.no F.out HOW.out hb
          · have q2 : ¬ (29 : Int) < (z : Int) := by omega
            have q3 : (s.size : Int) < (i : Int) + 2 * (z : Int) + 1 := by omega
            go_wp2_with fail
            go_ret2
            exact NsRes.no F.out HOW.out hb
    · obtain rfl : i = s.size := by omega
      have F := Lib.hid (nm_yes (s := s) (o := o) (by
        rw [RR.out, hV.out, List.drop_eq_nil_of_le (by rw [HLN.out]; exact Nat.le_refl _), nmV_nil]; simp [Option.map]))
      go_wp2_with fail
      go_ret2
      exact NsRes.yes F.out HOW.out hb
end Go.Proofs.YtogefmkplkddoaaDoor
