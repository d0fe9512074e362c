/- The law FnPackedSteps: its plain part: ways of steps, and their codes. -/
import Derived.Test.YtogefmkplkddoaaDoorUpsP
namespace Go.Proofs.YtogefmkplkddoaaDoor
open Go.RowKit

/-- Letters, the last one's number, their code. -/
inductive Wk : List UInt8 → Nat → List UInt8 → Prop
  | one (κ : Nat) (h : κ < 4) : Wk [lettr κ] κ (pkF (lettr κ))
  | same {l : List UInt8} {κ : Nat} {q : List UInt8} (h : Wk l κ q) : Wk (l ++ [lettr κ]) κ (q ++ [48])
  | next {l : List UInt8} {κ : Nat} {q : List UInt8} (h : Wk l κ q) : Wk (l ++ [lettr ((κ + 1) % 4)]) ((κ + 1) % 4) (q ++ [49, 48])
  | last {l : List UInt8} {κ : Nat} {q : List UInt8} (h : Wk l κ q) : Wk (l ++ [lettr ((κ + 3) % 4)]) ((κ + 3) % 4) (q ++ [49, 49])
/-- How many bits, step by step. -/
def bTo (l : List UInt8) : Nat → Nat
  | 0 => 2
  | k + 1 => if k = 0 then 2 else bTo l k + if l.getD k 0 = l.getD (k - 1) 0 then 1 else 2
theorem bTo_app (o x : List UInt8) : ∀ k, k ≤ o.length → bTo (o ++ x) k = bTo o k := by
  intro k
  induction k with
  | zero => intro _; rfl
  | succ k ih =>
    intro h
    have e : ∀ i, i < o.length → (o ++ x).getD i 0 = o.getD i 0 := fun i hi => by
      simp only [List.getD_eq_getElem?_getD]; rw [List.getElem?_append_left hi]
    rw [bTo, bTo, ih (by omega), e k (by omega), e (k - 1) (by omega)]
theorem bTo_snoc (o : List UInt8) (a b : UInt8) : bTo (o ++ [a] ++ [b]) (o.length + 1 + 1) = bTo (o ++ [a]) (o.length + 1) + if b = a then 1 else 2 := by
  have e1 : (o ++ [a] ++ [b]).getD (o.length + 1 - 1) 0 = a := by simp
  have e2 : (o ++ [a] ++ [b]).getD (o.length + 1) 0 = b := by simp
  rw [bTo, if_neg (by omega), bTo_app _ _ _ (by simp), e1, e2]
theorem lettr_ne {κ μ : Nat} (h : κ < 4) (h2 : μ < 4) (hn : κ ≠ μ) : lettr κ ≠ lettr μ := fun e => by
  have := congrArg wy e
  rw [wy_lettr h, wy_lettr h2] at this
  omega
structure WkF (l : List UInt8) (κ : Nat) (q : List UInt8) : Prop where
  lt : κ < 4
  pre : ∃ o, l = o ++ [lettr κ]
  pk : pkTo l l.length = some q
  ok : ∀ b ∈ l, 0 ≤ wy b
  bit : bitL q
  two : 2 ≤ q.length
  dec : ∀ x, dec (q.drop 2 ++ x) (fst2 q) [lettr (fst2 q)] = dec x κ l
  cnt : bTo l l.length = q.length
theorem fst2_app {q x : List UInt8} (h : 2 ≤ q.length) : fst2 (q ++ x) = fst2 q := by
  match q, h with
  | a :: b :: t, _ => rfl
theorem WkF.snoc {l : List UInt8} {κ : Nat} {q : List UInt8} (F : WkF l κ q) {μ : Nat} {d : List UInt8} (hl : μ < 4) (hd : pkS (κ : Int) (μ : Int) = some d) (hb : bitL d)
    (hx : ∀ x, Go.Proofs.YtogefmkplkddoaaDoor.dec (d ++ x) κ l = Go.Proofs.YtogefmkplkddoaaDoor.dec x μ (l ++ [lettr μ])) (hc : d.length = if lettr μ = lettr κ then 1 else 2) : WkF (l ++ [lettr μ]) μ (q ++ d) := by
  obtain ⟨o, ho⟩ := F.pre
  have hlen : l.length = o.length + 1 := by rw [ho]; simp
  have hdrop : (q ++ d).drop 2 = q.drop 2 ++ d := by rw [List.drop_append_of_le_length F.two]
  refine ⟨hl, ⟨l, rfl⟩, ?_, ?_, ?_, by have := F.two; rw [List.length_append]; omega, ?_, ?_⟩
  · have := F.pk
    rw [hlen, ho] at this
    have h2 := pk_snoc (b := lettr μ) this (d := d) (by rw [wy_lettr F.lt, wy_lettr hl]; exact hd)
    rw [ho]
    rw [show (o ++ [lettr κ] ++ [lettr μ]).length = o.length + 1 + 1 from by simp]
    exact h2
  · intro b hb
    rcases List.mem_append.1 hb with h | h
    · exact F.ok b h
    · rw [List.mem_singleton.1 h, wy_lettr hl]; omega
  · intro b h
    rcases List.mem_append.1 h with h | h
    · exact F.bit b h
    · exact hb b h
  · intro x
    rw [fst2_app F.two, hdrop, List.append_assoc, F.dec, hx]
  · have h2 := bTo_snoc o (lettr κ) (lettr μ)
    have h3 := F.cnt
    rw [hlen, ho] at h3
    rw [h3] at h2
    rw [ho, show (o ++ [lettr κ] ++ [lettr μ]).length = o.length + 1 + 1 from by simp, h2, List.length_append, hc]
theorem wk_facts {l : List UInt8} {κ : Nat} {q : List UInt8} (h : Wk l κ q) : WkF l κ q := by
  induction h with
  | one κ h =>
    have hf : fst2 (pkF (lettr κ)) = κ := by
      have : κ = 0 ∨ κ = 1 ∨ κ = 2 ∨ κ = 3 := by omega
      rcases this with rfl | rfl | rfl | rfl <;> decide
    refine ⟨h, ⟨[], rfl⟩, ?_, ?_, ?_, Nat.le_refl 2, ?_, rfl⟩
    · show pkTo [lettr κ] 1 = _
      rw [pkTo, if_pos rfl]; rfl
    · intro b hb; rw [List.mem_singleton.1 hb, wy_lettr h]; omega
    · have : κ = 0 ∨ κ = 1 ∨ κ = 2 ∨ κ = 3 := by omega
      unfold bitL
      rcases this with rfl | rfl | rfl | rfl <;> decide
    · intro x; rw [hf]; rfl
  | same _ ih =>
    exact ih.snoc ih.lt pkS_same (by unfold bitL; decide) (fun x => dec_zero) (by simp)
  | next _ ih =>
    have hl := ih.lt
    exact ih.snoc (by omega) (pkS_next hl) (by unfold bitL; decide) (fun x => by rw [List.cons_append, List.cons_append, List.nil_append, dec_one, if_pos rfl]) (by rw [if_neg (lettr_ne (by omega) hl (by omega))]; rfl)
  | last _ ih =>
    have hl := ih.lt
    exact ih.snoc (by omega) (pkS_last hl) (by unfold bitL; decide) (fun x => by rw [List.cons_append, List.cons_append, List.nil_append, dec_one, if_neg (by decide)]) (by rw [if_neg (lettr_ne (by omega) hl (by omega))]; rfl)
/-- The next letter's number is right. -/
def Nx (l : List UInt8) (κ : Nat) : Prop := κ < 4 ∧ (l = [] ∨ ∃ κl q, Wk l κl q ∧ (κ = κl ∨ κ = (κl + 1) % 4 ∨ κ = (κl + 3) % 4))
theorem Nx.put {l : List UInt8} {κ : Nat} (h : Nx l κ) : ∃ q, Wk (l ++ [lettr κ]) κ q := by
  rcases h.2 with rfl | ⟨κl, q, hw, rfl | rfl | rfl⟩
  · exact ⟨_, Wk.one κ h.1⟩
  · exact ⟨_, hw.same⟩
  · exact ⟨_, hw.next⟩
  · exact ⟨_, hw.last⟩
/-- What is so of a way of steps. -/
theorem wk_law {l : List UInt8} {κ : Nat} {q : List UInt8} (h : Wk l κ q) (hl : l.length ≤ 600) (hq : q.length ≤ 2000) :
    pkR l = some q ∧ upOk q = true ∧ (decA q).1 = l ∧ bTo l l.length = q.length ∧ pkR (l ++ [lettr ((κ + 2) % 4)]) = none ∧ l.getLast? = some (lettr κ) := by
  have F := wk_facts h
  obtain ⟨o, ho⟩ := F.pre
  have hlen : l.length = o.length + 1 := by rw [ho]; simp
  have hdA : decA q = (l, true) := by
    have := F.dec []
    rw [List.append_nil] at this
    rw [decA, this]; rfl
  refine ⟨?_, ?_, by rw [hdA], F.cnt, ?_, by rw [ho]; simp⟩
  · rw [pkR, if_pos, F.pk]
    rw [stpOk, Bool.and_eq_true, List.all_eq_true]
    exact ⟨inB_true (by omega) (by omega), fun b hb => by simpa using F.ok b hb⟩
  · have h2 := F.two
    have hb : q.all (fun b => b == 48 || b == 49) = true := by
      rw [List.all_eq_true]; intro b hb; simpa using F.bit b hb
    rw [upOk, hdA, hb, inB_true (by omega) (by omega)]
    simpa using hl
  · rw [pkR]
    split
    · have := F.pk
      rw [hlen, ho] at this
      have hl2 : (κ + 2) % 4 < 4 := by omega
      have e1 : (o ++ [lettr κ] ++ [lettr ((κ + 2) % 4)]).getD (o.length + 1 - 1) 0 = lettr κ := by simp
      have e2 : (o ++ [lettr κ] ++ [lettr ((κ + 2) % 4)]).getD (o.length + 1) 0 = lettr ((κ + 2) % 4) := by simp
      have hk := F.lt
      rw [ho, show (o ++ [lettr κ] ++ [lettr ((κ + 2) % 4)]).length = o.length + 1 + 1 from by simp, pkTo, if_neg (by omega), pkTo_app _ _ _ (by simp), this, e1, e2, wy_lettr F.lt, wy_lettr hl2, pkS, if_neg (by omega), if_neg (by omega), if_neg (by omega)]
    · rfl
end Go.Proofs.YtogefmkplkddoaaDoor
