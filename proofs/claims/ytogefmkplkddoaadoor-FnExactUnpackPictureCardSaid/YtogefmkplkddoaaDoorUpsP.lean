/- Steps read from their code: the plain part. -/
import Derived.Test.YtogefmkplkddoaaDoorStpP
namespace Go.Proofs.YtogefmkplkddoaaDoor
open Go.RowKit

/-- The letter of a number. -/
def lettr (κ : Nat) : UInt8 := ([114, 100, 108, 117] : List UInt8).getD κ 0
theorem wy_lettr {κ : Nat} (h : κ < 4) : wy (lettr κ) = κ := by
  have : κ = 0 ∨ κ = 1 ∨ κ = 2 ∨ κ = 3 := by omega
  rcases this with rfl | rfl | rfl | rfl <;> decide
/-- What is read of bits behind the first two: the letters, and whether the last step is whole. -/
def dec : List UInt8 → Nat → List UInt8 → List UInt8 × Bool
  | [], _, o => (o, true)
  | b :: t, κ, o => if b = 49 then
      match t with
      | [] => (o ++ [lettr ((κ + 3) % 4)], false)
      | c :: t' => dec t' (if c = 48 then (κ + 1) % 4 else (κ + 3) % 4) (o ++ [lettr (if c = 48 then (κ + 1) % 4 else (κ + 3) % 4)])
    else dec t κ (o ++ [lettr κ])
theorem dec_zero {t : List UInt8} {κ : Nat} {o : List UInt8} : dec (48 :: t) κ o = dec t κ (o ++ [lettr κ]) := by
  rw [dec.eq_def]; simp
theorem dec_cut {κ : Nat} {o : List UInt8} : dec [49] κ o = (o ++ [lettr ((κ + 3) % 4)], false) := by rw [dec, if_pos rfl]
theorem dec_one {c : UInt8} {t : List UInt8} {κ : Nat} {o : List UInt8} : dec (49 :: c :: t) κ o = dec t (if c = 48 then (κ + 1) % 4 else (κ + 3) % 4) (o ++ [lettr (if c = 48 then (κ + 1) % 4 else (κ + 3) % 4)]) := by rw [dec, if_pos rfl]
theorem pkTo_app (o x : List UInt8) : ∀ k, k ≤ o.length → pkTo (o ++ x) k = pkTo o k := by
  intro k
  induction k with
  | zero => intro _; rfl
  | succ k ih =>
    intro h
    have e : ∀ i, i < o.length → (o ++ x).getD i 0 = o.getD i 0 := fun i hi => by
      simp only [List.getD_eq_getElem?_getD]; rw [List.getElem?_append_left hi]
    rw [pkTo, pkTo, ih (by omega), e 0 (by omega), e k (by omega), e (k - 1) (by omega)]
/-- One letter more. -/
theorem pk_snoc {o q : List UInt8} {a b : UInt8} (h : pkTo (o ++ [a]) (o.length + 1) = some q) {d : List UInt8} (hd : pkS (wy a) (wy b) = some d) : pkTo (o ++ [a] ++ [b]) (o.length + 1 + 1) = some (q ++ d) := by
  have e1 : (o ++ [a] ++ [b]).getD (o.length + 1 - 1) 0 = a := by simp
  have e2 : (o ++ [a] ++ [b]).getD (o.length + 1) 0 = b := by simp
  rw [pkTo, if_neg (by omega), pkTo_app _ _ _ (by simp), h, e1, e2, hd]
def bitL (l : List UInt8) : Prop := ∀ b ∈ l, b = 48 ∨ b = 49
theorem pkS_same {κ : Nat} : pkS (κ : Int) (κ : Int) = some [48] := by rw [pkS, if_pos (by omega)]
theorem pkS_next {κ : Nat} (_h : κ < 4) : pkS (κ : Int) (((κ + 1) % 4 : Nat) : Int) = some [49, 48] := by rw [pkS, if_neg (by omega), if_pos (by omega)]
theorem pkS_last {κ : Nat} (_h : κ < 4) : pkS (κ : Int) (((κ + 3) % 4 : Nat) : Int) = some [49, 49] := by rw [pkS, if_neg (by omega), if_neg (by omega), if_pos (by omega)]
structure DecF (t q : List UInt8) (r : List UInt8 × Bool) : Prop where
  pk : ∃ o κ, r.1 = o ++ [lettr κ] ∧ κ < 4 ∧ (∀ b ∈ r.1, 0 ≤ wy b) ∧ pkTo r.1 r.1.length = some (q ++ t ++ if r.2 then [] else [49])
theorem dec_facts : ∀ (n : Nat) (t : List UInt8) (κ : Nat) (o q : List UInt8), t.length ≤ n → κ < 4 → bitL t → (∀ b ∈ o, 0 ≤ wy b) → pkTo (o ++ [lettr κ]) (o.length + 1) = some q → DecF t q (dec t κ (o ++ [lettr κ])) := by
  intro n
  induction n with
  | zero =>
    intro t κ o q ht hκ _ ho hq
    obtain rfl : t = [] := List.eq_nil_of_length_eq_zero (by omega)
    refine ⟨o, κ, rfl, hκ, ?_, ?_⟩
    · intro b hb
      rcases List.mem_append.1 hb with h | h
      · exact ho b h
      · rw [List.mem_singleton.1 h, wy_lettr hκ]; omega
    · simpa [dec] using hq
  | succ n ih =>
    intro t κ o q ht hκ hb ho hq
    have hoa : ∀ b ∈ o ++ [lettr κ], 0 ≤ wy b := by
      intro b hb
      rcases List.mem_append.1 hb with h | h
      · exact ho b h
      · rw [List.mem_singleton.1 h, wy_lettr hκ]; omega
    have wκ := wy_lettr hκ
    match t with
    | [] =>
      refine ⟨o, κ, rfl, hκ, hoa, ?_⟩
      simpa [dec] using hq
    | b :: t =>
      rcases hb b List.mem_cons_self with rfl | rfl
      · rw [dec_zero]
        have h1 := pk_snoc (b := lettr κ) hq (d := [48]) (by rw [wκ]; exact pkS_same)
        have h2 := ih t κ (o ++ [lettr κ]) (q ++ [48]) (by simp at ht; omega) hκ (fun x hx => hb x (List.mem_cons_of_mem _ hx)) hoa (by rw [List.length_append]; exact h1)
        obtain ⟨o', κ', a1, a2, a3, a4⟩ := h2.pk
        exact ⟨o', κ', a1, a2, a3, by rw [a4]; simp⟩
      · match t with
        | [] =>
          rw [dec_cut]
          have hl : (κ + 3) % 4 < 4 := by omega
          have h1 := pk_snoc (b := lettr ((κ + 3) % 4)) hq (d := [49, 49]) (by rw [wκ, wy_lettr hl]; exact pkS_last hκ)
          refine ⟨o ++ [lettr κ], (κ + 3) % 4, rfl, hl, ?_, ?_⟩
          · intro b hb
            rcases List.mem_append.1 hb with h | h
            · exact hoa b h
            · rw [List.mem_singleton.1 h, wy_lettr hl]; omega
          · show pkTo (o ++ [lettr κ] ++ [lettr ((κ + 3) % 4)]) (o ++ [lettr κ] ++ [lettr ((κ + 3) % 4)]).length = _
            rw [show (o ++ [lettr κ] ++ [lettr ((κ + 3) % 4)]).length = o.length + 1 + 1 from by simp, h1]
            simp
        | c :: t =>
          rw [dec_one]
          have hc : c = 48 ∨ c = 49 := hb c (by simp)
          obtain ⟨κ', hκ', hl, hs⟩ : ∃ κ', (if c = 48 then (κ + 1) % 4 else (κ + 3) % 4) = κ' ∧ κ' < 4 ∧ pkS (κ : Int) (κ' : Int) = some [49, c] := by
            rcases hc with rfl | rfl
            · exact ⟨_, rfl, by rw [if_pos rfl]; omega, by rw [if_pos rfl]; exact pkS_next hκ⟩
            · exact ⟨_, rfl, by rw [if_neg (by decide)]; omega, by rw [if_neg (by decide)]; exact pkS_last hκ⟩
          rw [hκ']
          have h1 := pk_snoc (b := lettr κ') hq (d := [49, c]) (by rw [wκ, wy_lettr hl]; exact hs)
          have h2 := ih t κ' (o ++ [lettr κ]) (q ++ [49, c]) (by simp at ht; omega) hl (fun x hx => hb x (by simp [hx])) hoa (by rw [List.length_append]; exact h1)
          obtain ⟨o', κ2, a1, a2, a3, a4⟩ := h2.pk
          exact ⟨o', κ2, a1, a2, a3, by rw [a4]; simp⟩
/-- The first step's number, of two bits. -/
def fst2 (l : List UInt8) : Nat := (l.getD 0 0).toNat * 2 + (l.getD 1 0).toNat - 144
def decA (l : List UInt8) : List UInt8 × Bool := dec (l.drop 2) (fst2 l) [lettr (fst2 l)]
theorem fst2_cons (a b : UInt8) (t : List UInt8) : fst2 (a :: b :: t) = a.toNat * 2 + b.toNat - 144 := rfl
theorem decA_facts {l : List UInt8} (h2 : 2 ≤ l.length) (hb : bitL l) : fst2 l < 4 ∧ DecF [] l ⟨(decA l).1, (decA l).2⟩ := by
  match l, h2 with
  | a :: b :: t, _ =>
    have ha := hb a (by simp)
    have hb' := hb b (by simp)
    have hf : fst2 (a :: b :: t) < 4 := by
      rw [fst2_cons]; rcases ha with rfl | rfl <;> rcases hb' with rfl | rfl <;> decide
    refine ⟨hf, ?_⟩
    have hp : pkF (lettr (fst2 (a :: b :: t))) = [a, b] := by
      rw [fst2_cons]; rcases ha with rfl | rfl <;> rcases hb' with rfl | rfl <;> decide
    have hq0 : ∀ x : UInt8, pkF x = [a, b] → pkTo ([] ++ [x]) (([] : List UInt8).length + 1) = some [a, b] := fun x hx => by
      rw [pkTo, if_pos (show ([] : List UInt8).length = 0 from rfl)]; exact congrArg some hx
    have h := dec_facts t.length t (fst2 (a :: b :: t)) [] [a, b] (Nat.le_refl _) hf (fun x hx => hb x (by simp [hx])) (by simp) (hq0 _ hp)
    obtain ⟨o', κ', a1, a2, a3, a4⟩ := h.pk
    exact ⟨o', κ', a1, a2, a3, by
      show pkTo (dec t _ _).1 (dec t _ _).1.length = _
      rw [show [lettr (fst2 (a :: b :: t))] = [] ++ [lettr (fst2 (a :: b :: t))] from rfl, a4]
      simp [decA]⟩
/-- The answer of UnpackSteps. -/
def upOk (l : List UInt8) : Bool := inB (l.length : Int) 2 2000 && (l.all (fun b => b == 48 || b == 49) && ((decA l).2 && decide ((decA l).1.length ≤ 600)))
def upV (s : ByteArray) : ByteArray := if upOk s.data.toList then ⟨(decA s.data.toList).1.toArray⟩ else ⟨#[]⟩
def upB (s : ByteArray) : Bool := upOk s.data.toList
end Go.Proofs.YtogefmkplkddoaaDoor
