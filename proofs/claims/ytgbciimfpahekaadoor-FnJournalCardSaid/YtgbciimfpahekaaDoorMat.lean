/- Matrices of numbers: equality, marks, held marks. -/
import Derived.Test.YtgbciimfpahekaaDoorPicL
namespace Go.Proofs.YtgbciimfpahekaaDoor
open Go.RowKit

theorem rowT : ElemT 81 93 (.slice none 0 0) 1 24 := ⟨Tryd.underlying81, by kernel_rfl, rfl, by decide, by decide⟩
theorem own_own_ne {w : World} {b1 b2 : Nat} {e1 e2 : TypeId} {s1 s2 n1 n2 : Nat} {v1 v2 : Value} {x1 x2 : List Value} (h1 : w.ownsRow b1 e1 s1 v1 n1 x1) (h2 : w.ownsRow b2 e2 s2 v2 n2 x2) (hne : e1 ≠ e2) {g : Nat} (hg : v1.ownBlock = some g) : v2.ownBlock ≠ some g := by
  intro hg2
  rcases h1.2 with ⟨rfl, _⟩ | ⟨g1, cap1, cur1, rfl, _, hh1, _⟩
  · simp [Value.ownBlock] at hg
  · rcases h2.2 with ⟨rfl, _⟩ | ⟨g2, cap2, cur2, rfl, _, hh2, _⟩
    · simp [Value.ownBlock] at hg2
    · simp only [Value.ownBlock, Option.some.injEq] at hg hg2
      subst hg
      rw [hg2] at hh2
      rw [hh1] at hh2
      injection hh2 with hh2
      injection hh2 with _ ht
      exact hne ht

/-- A matrix that a slice value reads as. -/
def MatRd (w : World) (A : Option Addr) (rows : List (List Int)) : Prop :=
  0 < rows.length → ∃ g, A = some ⟨g, 0, none⟩ ∧ g < w.heap.size ∧ ∀ i (h : i < rows.length), ∃ Ai ci, w.cell? ⟨g, i, none⟩ = some (.slice Ai rows[i].length ci) ∧ Rd w Ai (ints rows[i])
theorem MatRd.ext {w w' : World} {A : Option Addr} {rows : List (List Int)} (h : MatRd w A rows) (hb : Below w.heap.size w w') : MatRd w' A rows := by
  intro hn
  obtain ⟨g, e, hg, hc⟩ := h hn
  refine ⟨g, e, Nat.lt_of_lt_of_le hg hb.size, fun i hi => ?_⟩
  obtain ⟨Ai, ci, h1, h2⟩ := hc i hi
  exact ⟨Ai, ci, (hb.cell (p := ⟨g, _, none⟩) hg).trans h1, h2.ext hb⟩
theorem MatRd.drewN {w : World} {A : Option Addr} {rows : List (List Int)} (h : MatRd w A rows) (k : Nat) : MatRd (w.drewN k) A rows := h

/-- A matrix in memory of the law's own, between lo and hi: the outer row's values vs, each row apart from the others. -/
structure MatAt (w : World) (lo hi : Nat) (A : Option Addr) (c : Nat) (vs : List Value) (rows : List (List Int)) : Prop where
  outer : w.ownsRow lo 93 1 (.slice A rows.length c) rows.length vs
  top : ∀ a, A = some a → a.block < hi
  row : ∀ i (h : i < rows.length), ∃ Ai ci, vs[i]? = some (.slice Ai rows[i].length ci) ∧ w.ownsRow lo 2 1 (.slice Ai rows[i].length ci) rows[i].length (ints rows[i]) ∧ ∀ a, Ai = some a → a.block < hi
  apart : ∀ (i j : Nat) (u v : Value) (g : Nat), i ≠ j → vs[i]? = some u → vs[j]? = some v → u.ownBlock = some g → v.ownBlock ≠ some g
theorem MatAt.rd {w : World} {lo hi : Nat} {A : Option Addr} {c : Nat} {vs : List Value} {rows : List (List Int)} (h : MatAt w lo hi A c vs rows) : MatRd w A rows := by
  intro hn
  rcases h.outer.2 with ⟨_, h0⟩ | ⟨g, cap, cur, hv, _⟩
  · omega
  · simp only [Value.slice.injEq] at hv
    obtain ⟨rfl, _, rfl⟩ := hv
    refine ⟨g, rfl, (h.outer.lt g rfl).2, fun i hi => ?_⟩
    obtain ⟨Ai, ci, h1, h2, _⟩ := h.row i hi
    exact ⟨Ai, ci, (h.outer.cellAt i (by omega)).trans h1, Rd.of_own h2⟩
theorem MatAt.ext {w w' : World} {lo hi : Nat} {A : Option Addr} {c : Nat} {vs : List Value} {rows : List (List Int)} (h : MatAt w lo hi A c vs rows) (hb : Below w.heap.size w w') : MatAt w' lo hi A c vs rows := by
  refine ⟨own_ext hb h.outer, h.top, fun i hi => ?_, h.apart⟩
  obtain ⟨Ai, ci, h1, h2, h3⟩ := h.row i hi
  exact ⟨Ai, ci, h1, own_ext hb h2, h3⟩
/-- Blocks outside have turned. -/
theorem MatAt.keep {w w' : World} {lo hi : Nat} {A : Option Addr} {c : Nat} {vs : List Value} {rows : List (List Int)} {S : Nat → Prop} (h : MatAt w lo hi A c vs rows) (hc : Chg S w w') (hS : ∀ b, lo ≤ b → b < hi → ¬ S b) : MatAt w' lo hi A c vs rows := by
  have one : ∀ {e : TypeId} {B : Option Addr} {n d : Nat} {xs : List Value}, w.ownsRow lo e 1 (.slice B n d) n xs → (∀ a, B = some a → a.block < hi) → w'.ownsRow lo e 1 (.slice B n d) n xs := by
    intro e B n d xs ho ht
    refine hc.own ho (fun g hg => ?_)
    cases B with
    | none => simp [Value.ownBlock] at hg
    | some a =>
      have hl := (ho.lt g hg).1
      simp [Value.ownBlock] at hg
      exact hS g hl (by rw [← hg]; exact ht a rfl)
  refine ⟨one h.outer h.top, h.top, fun i hi => ?_, h.apart⟩
  obtain ⟨Ai, ci, h1, h2, h3⟩ := h.row i hi
  exact ⟨Ai, ci, h1, one h2 h3, h3⟩
/-- A row has turned. -/
theorem MatAt.turn {w w' : World} {lo hi : Nat} {A : Option Addr} {c : Nat} {vs : List Value} {rows : List (List Int)} (h : MatAt w lo hi A c vs rows) {i : Nat} (hi' : i < rows.length) {Ai : Option Addr} {ci : Nat} (hv : vs[i]? = some (.slice Ai rows[i].length ci)) (ht : ∀ a, Ai = some a → a.block < hi)
    (r : List Int) (hr : r.length = rows[i].length) (ho : w'.ownsRow lo 2 1 (.slice Ai rows[i].length ci) rows[i].length (ints r)) (hc : Chg (fun b => ∃ a, Ai = some a ∧ b = a.block) w w') : MatAt w' lo hi A c vs (rows.set i r) := by
  obtain ⟨Ai', ci', hv', ho', _⟩ := h.row i hi'
  rw [hv] at hv'
  obtain ⟨rfl, rfl⟩ : Ai = Ai' ∧ ci = ci' := by simpa using hv'
  have hS : ∀ b, (∃ a, Ai = some a ∧ b = a.block) → (Value.slice Ai rows[i].length ci).ownBlock = some b := by
    rintro b ⟨a, rfl, rfl⟩; rfl
  refine ⟨?_, h.top, fun j hj => ?_, h.apart⟩
  · rw [List.length_set]
    exact hc.own h.outer (fun g hg hb => own_own_ne h.outer ho' (by decide) hg (hS g hb))
  · rw [List.length_set] at hj
    by_cases e : j = i
    · subst e
      refine ⟨Ai, ci, ?_, ?_, ht⟩
      · rw [List.getElem_set_self, hr]; exact hv
      · rw [List.getElem_set_self, hr]; exact ho
    · obtain ⟨Aj, cj, h1, h2, h3⟩ := h.row j hj
      refine ⟨Aj, cj, ?_, ?_, h3⟩
      · rw [List.getElem_set_ne (Ne.symm e)]; exact h1
      · rw [List.getElem_set_ne (Ne.symm e)]
        exact hc.own h2 (fun g hg hb => h.apart j i _ _ g e h1 hv hg (hS g hb))

/-- The numbers in the first k rows. -/
def tot (rows : List (List Int)) (k : Nat) : Nat := ((rows.take k).map List.length).sum
theorem tot_zero (rows : List (List Int)) : tot rows 0 = 0 := by simp [tot]
theorem tot_succ {rows : List (List Int)} {k : Nat} (h : k < rows.length) : tot rows (k + 1) = tot rows k + rows[k].length := by
  unfold tot
  rw [List.take_add_one, List.getElem?_eq_getElem h, List.map_append, List.sum_append]
  simp only [Option.toList, List.map_cons, List.map_nil, List.sum_cons, List.sum_nil, Nat.add_zero]
theorem tot_le {rows : List (List Int)} {k : Nat} (h : k ≤ rows.length) : tot rows k ≤ tot rows rows.length := by
  have e : ∀ d, k + d ≤ rows.length → tot rows k ≤ tot rows (k + d) := by
    intro d
    induction d with
    | zero => intro _; exact Nat.le_refl _
    | succ d ih =>
      intro hd
      have h1 := ih (by omega)
      rw [show k + (d + 1) = k + d + 1 from rfl, tot_succ (by omega)]
      omega
  have := e (rows.length - k) (by omega)
  rwa [show k + (rows.length - k) = rows.length by omega] at this
/-- The rows, the first k of them marked. -/
def mkRows (k0 : Nat) (rows : List (List Int)) (k : Nat) : List (List Int) := (List.range rows.length).map fun i => if i < k then marks (k0 + tot rows i) (rows.getD i []).length else rows.getD i []
theorem mkRows_length (k0 : Nat) (rows : List (List Int)) (k : Nat) : (mkRows k0 rows k).length = rows.length := by simp [mkRows]
theorem mkRows_at {k0 : Nat} {rows : List (List Int)} {k i : Nat} (h : i < rows.length) : (mkRows k0 rows k)[i]'(by rw [mkRows_length]; exact h) = if i < k then marks (k0 + tot rows i) rows[i].length else rows[i] := by
  simp [mkRows, List.getD_eq_getElem?_getD, h]
theorem mkRows_row {k0 : Nat} {rows : List (List Int)} {k i : Nat} (h : i < rows.length) : ((mkRows k0 rows k)[i]'(by rw [mkRows_length]; exact h)).length = rows[i].length := by
  rw [mkRows_at h]; split
  · rw [marks_length]
  · rfl
theorem mkRows_zero (k0 : Nat) (rows : List (List Int)) : mkRows k0 rows 0 = rows := by
  apply List.ext_getElem
  · rw [mkRows_length]
  · intro i h1 h2; rw [mkRows_at h2]; rfl
theorem mkRows_set {k0 : Nat} {rows : List (List Int)} {k : Nat} (h : k < rows.length) : (mkRows k0 rows k).set k (marks (k0 + tot rows k) rows[k].length) = mkRows k0 rows (k + 1) := by
  apply List.ext_getElem
  · rw [List.length_set, mkRows_length, mkRows_length]
  · intro i h1 h2
    have hi : i < rows.length := by rw [mkRows_length] at h2; exact h2
    rw [List.getElem_set, mkRows_at hi]
    by_cases e : k = i
    · subst e; rw [if_pos rfl, mkRows_at hi, if_pos (Nat.lt_succ_self k)]
    · rw [if_neg e, mkRows_at hi]
      by_cases h3 : i < k
      · rw [if_pos h3, if_pos (by omega)]
      · rw [if_neg h3, if_neg (by omega)]

end Go.Proofs.YtgbciimfpahekaaDoor
