/- Journals: the plain part. -/
import Derived.Test.YtgbciimfpahekaaDoorBase
import Derived.Lib.ItoaMem
import Derived.Lib.Bytealg
namespace Go.Proofs.YtgbciimfpahekaaDoor
open Go.RowKit

/-- A text's bytes. -/
def bl (s : ByteArray) : List UInt8 := s.data.toList
theorem bl_len (s : ByteArray) : (bl s).length = s.size := rfl
def chk1 (n : Nat) (b : UInt8) : Nat := (421 * n + b.toNat + 19) % 65129
def chk (n : Nat) (l : List UInt8) : Nat := l.foldl chk1 n
theorem chk_lt : ∀ (l : List UInt8) (n : Nat), n < 65129 → chk n l < 65129
  | [], _, h => h
  | b :: l, n, _ => chk_lt l (chk1 n b) (Nat.mod_lt _ (by decide))
theorem chk_snoc (n : Nat) (l : List UInt8) (b : UInt8) : chk n (l ++ [b]) = chk1 (chk n l) b := by simp [chk]
def ckL (n : Nat) (ls : List (List UInt8)) : Nat := ls.foldl chk n
theorem ckL_lt : ∀ (ls : List (List UInt8)) (n : Nat), n < 65129 → ckL n ls < 65129
  | [], _, h => h
  | l :: ls, n, h => ckL_lt ls (chk n l) (chk_lt l n h)
theorem ckL_snoc (n : Nat) (ls : List (List UInt8)) (l : List UInt8) : ckL n (ls ++ [l]) = chk (ckL n ls) l := by simp [ckL]
/-- A line of a journal: its check number, a space, the line. -/
def jLine (m : Nat) (l : List UInt8) : List UInt8 := Lib.decDigits m ++ (32 :: (l ++ [10]))
def jl : Nat → List (List UInt8) → List UInt8
  | _, [] => []
  | n, l :: r => jLine (chk n l) l ++ jl (chk n l) r
theorem jl_app : ∀ (a b : List (List UInt8)) (n : Nat), jl n (a ++ b) = jl n a ++ jl (ckL n a) b
  | [], b, n => by simp [jl, ckL]
  | l :: a, b, n => by
    have := jl_app a b (chk n l)
    simp only [List.cons_append, jl, this, List.append_assoc]
    rfl
theorem jl_snoc (n : Nat) (ls : List (List UInt8)) (l : List UInt8) : jl n (ls ++ [l]) = jl n ls ++ jLine (chk (ckL n ls) l) l := by
  rw [jl_app, jl, jl, List.append_nil]
theorem jl_take (n : Nat) (ls : List (List UInt8)) (k : Nat) (hk : k < ls.length) : jl n (ls.take (k + 1)) = jl n (ls.take k) ++ jLine (chk (ckL n (ls.take k)) ls[k]) ls[k] := by
  rw [List.take_add_one, List.getElem?_eq_getElem hk]
  exact jl_snoc _ _ _
theorem ckL_take (n : Nat) (ls : List (List UInt8)) (k : Nat) (hk : k < ls.length) : ckL n (ls.take (k + 1)) = chk (ckL n (ls.take k)) ls[k] := by
  rw [List.take_add_one, List.getElem?_eq_getElem hk]
  exact ckL_snoc _ _ _
theorem jl_mono (n : Nat) (ls : List (List UInt8)) (k : Nat) : (jl n (ls.take k)).length ≤ (jl n ls).length := by
  have h := jl_app (ls.take k) (ls.drop k) n
  rw [List.take_append_drop] at h
  rw [h, List.length_append]; omega
theorem dec_digit : ∀ (u : Nat), ∀ b ∈ Lib.decDigits u, 48 ≤ b.toNat ∧ b.toNat ≤ 57
  | u, b, hb => by
    rw [Lib.decDigits] at hb
    split at hb
    · simp only [List.mem_singleton] at hb
      subst hb
      rw [UInt8.toNat_ofNat']; omega
    · rename_i h
      rcases List.mem_append.1 hb with hb | hb
      · exact dec_digit (u / 10) b hb
      · simp only [List.mem_singleton] at hb
        subst hb
        rw [UInt8.toNat_ofNat']; omega
termination_by u => u
decreasing_by omega
theorem dec_len_pos (u : Nat) : 1 ≤ (Lib.decDigits u).length := by rw [Lib.decDigits_length]; exact Lib.nDigits_pos u
theorem dec_len (u : Nat) (h : u < 100000) : (Lib.decDigits u).length ≤ 5 := by
  rw [Lib.decDigits_length]
  by_cases h1 : u < 10
  · rw [Lib.nDigits_small h1]; omega
  rw [Lib.nDigits_big h1]
  by_cases h2 : u / 10 < 10
  · rw [Lib.nDigits_small h2]; omega
  rw [Lib.nDigits_big h2]
  by_cases h3 : u / 10 / 10 < 10
  · rw [Lib.nDigits_small h3]; omega
  rw [Lib.nDigits_big h3]
  by_cases h4 : u / 10 / 10 / 10 < 10
  · rw [Lib.nDigits_small h4]; omega
  rw [Lib.nDigits_big h4, Lib.nDigits_small (by omega)]; omega
/-- The place of a byte, or the length. -/
def fnd (b : UInt8) (l : List UInt8) : Nat := l.findIdx (· == b)
theorem fnd_le (b : UInt8) (l : List UInt8) : fnd b l ≤ l.length := List.findIdx_le_length
theorem fnd_at {b : UInt8} {l : List UInt8} (h : fnd b l < l.length) : l[fnd b l] = b := by
  have := List.findIdx_getElem (w := h)
  exact eq_of_beq this
theorem fnd_not {b : UInt8} {l : List UInt8} {i : Nat} (h : i < fnd b l) (h2 : i < l.length) : l[i] ≠ b := by
  have := List.not_of_lt_findIdx h
  simpa using this
theorem fnd_is {b : UInt8} {l : List UInt8} {i : Nat} (hi : i ≤ l.length) (h : ∀ j (hj : j < l.length), j < i → l[j] ≠ b) (h2 : ∀ h : i < l.length, l[i] = b) : fnd b l = i := by
  rcases Nat.lt_trichotomy (fnd b l) i with h1 | h1 | h1
  · exact absurd (fnd_at (by omega)) (h _ (by omega) h1)
  · exact h1
  · have := fnd_le b l
    exact absurd (h2 (by omega)) (fnd_not h1 (by omega))
theorem fnd_none {b : UInt8} {l : List UInt8} (h : b ∉ l) : fnd b l = l.length :=
  fnd_is (Nat.le_refl _) (fun _ hj _ e => h (e ▸ List.getElem_mem hj)) (fun h => absurd h (Nat.lt_irrefl _))
theorem fnd_take {b : UInt8} {l : List UInt8} : b ∉ l.take (fnd b l) := by
  intro h
  obtain ⟨i, hi, e⟩ := List.getElem_of_mem h
  rw [List.length_take] at hi
  rw [List.getElem_take] at e
  exact fnd_not (by omega) (by omega) e
theorem fnd_app {b : UInt8} {x r : List UInt8} (h : b ∉ x) : fnd b (x ++ b :: r) = x.length := by
  refine fnd_is (by simp) (fun j hj hlt e => ?_) (fun h => ?_)
  · rw [List.getElem_append_left hlt] at e
    exact h (e ▸ List.getElem_mem hlt)
  · rw [List.getElem_append_right (Nat.le_refl _)]; simp
theorem fnd_split {b : UInt8} {l : List UInt8} (h : fnd b l < l.length) : l = l.take (fnd b l) ++ b :: l.drop (fnd b l + 1) := by
  conv => lhs; rw [← List.take_append_drop (fnd b l) l]
  rw [List.drop_eq_getElem_cons h, fnd_at h]
theorem idx_fnd : ∀ (l : List UInt8) (b : UInt8), Lib.indexByte l b = if fnd b l < l.length then (fnd b l : Int) else -1
  | [], b => by simp [Lib.indexByte, fnd]
  | c :: l, b => by
    have ih := idx_fnd l b
    simp only [Lib.indexByte]
    unfold fnd at *
    rw [List.findIdx_cons]
    cases hc : c == b
    · simp only [Bool.false_eq_true, if_false, cond_false, List.length_cons]
      by_cases h : List.findIdx (· == b) l < l.length
      · rw [if_pos h] at ih
        rw [ih, if_pos (show List.findIdx (· == b) l + 1 < l.length + 1 by omega)]
        have : ((((List.findIdx (· == b) l : Nat) : Int) == -1) = false) := by rw [beq_eq_false_iff_ne]; omega
        rw [this]; simp
      · rw [if_neg h] at ih
        rw [ih, if_neg (show ¬ List.findIdx (· == b) l + 1 < l.length + 1 by omega)]
        rfl
    · simp

/-- The parts of a text between marks. -/
def cutL (b : UInt8) (t : List UInt8) : List (List UInt8) :=
  if h : fnd b t < t.length then t.take (fnd b t) :: cutL b (t.drop (fnd b t + 1)) else [t]
termination_by t.length
decreasing_by rw [List.length_drop]; omega
theorem cutL_hit {b : UInt8} {t : List UInt8} (h : fnd b t < t.length) : cutL b t = t.take (fnd b t) :: cutL b (t.drop (fnd b t + 1)) := by rw [cutL, dif_pos h]
theorem cutL_end {b : UInt8} {t : List UInt8} (h : ¬ fnd b t < t.length) : cutL b t = [t] := by rw [cutL, dif_neg h]
theorem cutL_ne (b : UInt8) (t : List UInt8) : cutL b t ≠ [] := by
  rw [cutL]; split <;> simp
theorem cutL_len (b : UInt8) : ∀ (n : Nat) (t : List UInt8), t.length ≤ n → (cutL b t).length ≤ n + 1
  | n, t, hn => by
    by_cases h : fnd b t < t.length
    · rw [cutL_hit h, List.length_cons]
      cases n with
      | zero => omega
      | succ n =>
        have := cutL_len b n (t.drop (fnd b t + 1)) (by rw [List.length_drop]; omega)
        omega
    · rw [cutL_end h]; simp
/-- The complete lines of a text. -/
def lnL (t : List UInt8) : List (List UInt8) := (cutL 10 t).dropLast
theorem lnL_hit {t : List UInt8} (h : fnd 10 t < t.length) : lnL t = t.take (fnd 10 t) :: lnL (t.drop (fnd 10 t + 1)) := by
  rw [lnL, cutL_hit h, List.dropLast_cons_of_ne_nil (cutL_ne _ _)]; rfl
theorem lnL_end {t : List UInt8} (h : ¬ fnd 10 t < t.length) : lnL t = [] := by rw [lnL, cutL_end h]; rfl

/-- What is recovered of a text from a check number on: the lines, and how many bytes. -/
def rcv (c : Nat) (t : List UInt8) : List (List UInt8) × Nat :=
  if h : fnd 10 t < t.length then
    if fnd 32 (t.take (fnd 10 t)) < (t.take (fnd 10 t)).length ∧ (t.take (fnd 10 t)).take (fnd 32 (t.take (fnd 10 t))) = Lib.decDigits (chk c ((t.take (fnd 10 t)).drop (fnd 32 (t.take (fnd 10 t)) + 1))) then
      let r := rcv (chk c ((t.take (fnd 10 t)).drop (fnd 32 (t.take (fnd 10 t)) + 1))) (t.drop (fnd 10 t + 1))
      ((t.take (fnd 10 t)).drop (fnd 32 (t.take (fnd 10 t)) + 1) :: r.1, fnd 10 t + 1 + r.2)
    else ([], 0)
  else ([], 0)
termination_by t.length
decreasing_by rw [List.length_drop]; omega
section
variable {c : Nat} {t : List UInt8}
theorem rcv_end (h : ¬ fnd 10 t < t.length) : rcv c t = ([], 0) := by rw [rcv, dif_neg h]
theorem rcv_no {x : List UInt8} (hx : t.take (fnd 10 t) = x) (h : ¬ fnd 32 x < x.length) : rcv c t = ([], 0) := by
  rw [rcv, hx]; split
  · rw [if_neg (fun e => h e.1)]
  · rfl
theorem rcv_bad {x : List UInt8} (hx : t.take (fnd 10 t) = x) (h : x.take (fnd 32 x) ≠ Lib.decDigits (chk c (x.drop (fnd 32 x + 1)))) : rcv c t = ([], 0) := by
  rw [rcv, hx]; split
  · rw [if_neg (fun e => h e.2)]
  · rfl
theorem rcv_good {x : List UInt8} (hx : t.take (fnd 10 t) = x) (h : fnd 10 t < t.length) (h2 : fnd 32 x < x.length) (h3 : x.take (fnd 32 x) = Lib.decDigits (chk c (x.drop (fnd 32 x + 1)))) :
    rcv c t = (x.drop (fnd 32 x + 1) :: (rcv (chk c (x.drop (fnd 32 x + 1))) (t.drop (fnd 10 t + 1))).1, fnd 10 t + 1 + (rcv (chk c (x.drop (fnd 32 x + 1))) (t.drop (fnd 10 t + 1))).2) := by
  rw [rcv, hx, dif_pos h, if_pos ⟨h2, h3⟩]
end
theorem rcv_jl : ∀ (n : Nat) (t : List UInt8) (c : Nat), t.length ≤ n → (rcv c t).2 ≤ t.length ∧ jl c (rcv c t).1 = t.take (rcv c t).2 ∧ ∀ l ∈ (rcv c t).1, 10 ∉ l
  | n, t, c, hn => by
    by_cases h : fnd 10 t < t.length
    · obtain ⟨x, hx⟩ : ∃ x, t.take (fnd 10 t) = x := ⟨_, rfl⟩
      by_cases h2 : fnd 32 x < x.length
      · by_cases h3 : x.take (fnd 32 x) = Lib.decDigits (chk c (x.drop (fnd 32 x + 1)))
        · rw [rcv_good hx h h2 h3]
          cases n with
          | zero => omega
          | succ n =>
            have hl : (t.drop (fnd 10 t + 1)).length = t.length - (fnd 10 t + 1) := List.length_drop
            obtain ⟨e1, e2, e3⟩ := rcv_jl n (t.drop (fnd 10 t + 1)) (chk c (x.drop (fnd 32 x + 1))) (by omega)
            have hxs : x = x.take (fnd 32 x) ++ 32 :: x.drop (fnd 32 x + 1) := fnd_split h2
            have hts : t = x ++ 10 :: t.drop (fnd 10 t + 1) := by rw [← hx]; exact fnd_split h
            refine ⟨by simp only; omega, ?_, ?_⟩
            · simp only [jl, e2, jLine]
              rw [← h3]
              have h4 : t.take (fnd 10 t + 1 + (rcv (chk c (x.drop (fnd 32 x + 1))) (t.drop (fnd 10 t + 1))).2) = x ++ 10 :: (t.drop (fnd 10 t + 1)).take (rcv (chk c (x.drop (fnd 32 x + 1))) (t.drop (fnd 10 t + 1))).2 := by
                rw [List.take_add, List.take_add_one, List.getElem?_eq_getElem h, fnd_at h, hx]; simp
              rw [h4]
              generalize (t.drop (fnd 10 t + 1)).take (rcv (chk c (x.drop (fnd 32 x + 1))) (t.drop (fnd 10 t + 1))).2 = q
              rw [show x ++ 10 :: q = (x.take (fnd 32 x) ++ 32 :: x.drop (fnd 32 x + 1)) ++ 10 :: q from congrArg (fun z => z ++ 10 :: q) hxs]
              simp
            · intro l hl2
              rcases List.mem_cons.1 hl2 with rfl | hl2
              · intro hm
                have : (10 : UInt8) ∈ x := List.mem_of_mem_drop hm
                rw [← hx] at this
                exact fnd_take this
              · exact e3 l hl2
        · rw [rcv_bad hx h3]; simp [jl]
      · rw [rcv_no hx h2]; simp [jl]
    · rw [rcv_end h]; simp [jl]
theorem mem10_dec (u : Nat) : (10 : UInt8) ∉ Lib.decDigits u := fun h => by
  have := dec_digit u 10 h
  have e : (10 : UInt8).toNat = 10 := rfl
  omega
theorem mem32_dec (u : Nat) : (32 : UInt8) ∉ Lib.decDigits u := fun h => by
  have := dec_digit u 32 h
  have e : (32 : UInt8).toNat = 32 := rfl
  omega
theorem rcv_line {l t : List UInt8} {c : Nat} (h : 10 ∉ l) : rcv c (jLine (chk c l) l ++ t) = (l :: (rcv (chk c l) t).1, (jLine (chk c l) l).length + (rcv (chk c l) t).2) := by
  have e0 : jLine (chk c l) l ++ t = (Lib.decDigits (chk c l) ++ 32 :: l) ++ 10 :: t := by simp [jLine]
  have n10 : (10 : UInt8) ∉ Lib.decDigits (chk c l) ++ 32 :: l := by
    intro hm
    rcases List.mem_append.1 hm with hm | hm
    · exact mem10_dec _ hm
    · rcases List.mem_cons.1 hm with hm | hm
      · exact absurd hm (by decide)
      · exact h hm
  have f1 : fnd 10 (jLine (chk c l) l ++ t) = (Lib.decDigits (chk c l) ++ 32 :: l).length := by rw [e0]; exact fnd_app n10
  have hx : (jLine (chk c l) l ++ t).take (fnd 10 (jLine (chk c l) l ++ t)) = Lib.decDigits (chk c l) ++ 32 :: l := by rw [f1, e0]; exact List.take_left
  have hlt : fnd 10 (jLine (chk c l) l ++ t) < (jLine (chk c l) l ++ t).length := by rw [f1, e0]; simp
  have f2 : fnd 32 (Lib.decDigits (chk c l) ++ 32 :: l) = (Lib.decDigits (chk c l)).length := fnd_app (mem32_dec _)
  have d2 : (Lib.decDigits (chk c l) ++ 32 :: l).drop (fnd 32 (Lib.decDigits (chk c l) ++ 32 :: l) + 1) = l := by
    rw [f2, ← List.drop_drop, List.drop_left]; rfl
  have t2 : (Lib.decDigits (chk c l) ++ 32 :: l).take (fnd 32 (Lib.decDigits (chk c l) ++ 32 :: l)) = Lib.decDigits (chk c l) := by rw [f2]; exact List.take_left
  rw [rcv_good hx hlt (by rw [f2]; simp) (by rw [t2, d2]), d2]
  have d3 : (jLine (chk c l) l ++ t).drop (fnd 10 (jLine (chk c l) l ++ t) + 1) = t := by
    rw [f1, e0, ← List.drop_drop, List.drop_left]; rfl
  rw [d3, f1]
  simp [jLine]
  omega
theorem rcv_lines : ∀ (ls : List (List UInt8)) (c : Nat) (t : List UInt8), (∀ l ∈ ls, 10 ∉ l) → rcv c (jl c ls ++ t) = (ls ++ (rcv (ckL c ls) t).1, (jl c ls).length + (rcv (ckL c ls) t).2)
  | [], c, t, _ => by simp [jl, ckL]
  | l :: ls, c, t, h => by
    have ih := rcv_lines ls (chk c l) t (fun x hx => h x (List.mem_cons_of_mem _ hx))
    rw [jl, List.append_assoc, rcv_line (h l List.mem_cons_self), ih]
    have e : ckL c (l :: ls) = ckL (chk c l) ls := rfl
    rw [e]
    simp
    omega
/-- A cut journal: complete lines, and a rest without the end of one. -/
theorem jl_cut : ∀ (ls : List (List UInt8)) (c : Nat) (at_ : Nat), (∀ l ∈ ls, 10 ∉ l) → at_ < (jl c ls).length →
    ∃ k r, k < ls.length ∧ (jl c ls).take at_ = jl c (ls.take k) ++ r ∧ 10 ∉ r
  | [], c, a, _, h => by simp [jl] at h
  | l :: ls, c, a, hn, h => by
    by_cases ha : a < (jLine (chk c l) l).length
    · refine ⟨0, (jLine (chk c l) l).take a, by simp, ?_, ?_⟩
      · rw [List.take_zero, jl, jl, List.nil_append, List.take_append_of_le_length (by omega)]
      · intro hm
        have e : jLine (chk c l) l = (Lib.decDigits (chk c l) ++ 32 :: l) ++ [10] := by simp [jLine]
        have hl : (jLine (chk c l) l).length = (Lib.decDigits (chk c l) ++ 32 :: l).length + 1 := by rw [e, List.length_append]; rfl
        rw [e, List.take_append_of_le_length (by omega)] at hm
        have hm := List.mem_of_mem_take hm
        rcases List.mem_append.1 hm with hm | hm
        · exact mem10_dec _ hm
        · rcases List.mem_cons.1 hm with hm | hm
          · exact absurd hm (by decide)
          · exact hn l List.mem_cons_self hm
    · obtain ⟨k, r, hk, e, hr⟩ := jl_cut ls (chk c l) (a - (jLine (chk c l) l).length) (fun x hx => hn x (List.mem_cons_of_mem _ hx)) (by
        rw [jl, List.length_append] at h; omega)
      refine ⟨k + 1, r, by simpa using hk, ?_, hr⟩
      rw [jl, List.take_append, List.take_of_length_le (by omega), e, List.take_succ_cons, jl, List.append_assoc]
theorem count_jl : ∀ (ls : List (List UInt8)) (c : Nat), (∀ l ∈ ls, 10 ∉ l) → (jl c ls).count 10 = ls.length
  | [], c, _ => by simp [jl]
  | l :: ls, c, h => by
    have e1 : (Lib.decDigits (chk c l)).count 10 = 0 := List.count_eq_zero.2 (mem10_dec _)
    have e2 : l.count 10 = 0 := List.count_eq_zero.2 (h l List.mem_cons_self)
    rw [jl, List.count_append, count_jl ls _ (fun x hx => h x (List.mem_cons_of_mem _ hx)), jLine, List.count_append, e1]
    simp [e2]
    omega
end Go.Proofs.YtgbciimfpahekaaDoor
