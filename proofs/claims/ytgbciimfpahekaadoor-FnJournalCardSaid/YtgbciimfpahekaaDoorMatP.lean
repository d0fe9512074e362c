/- The laws' own functions of grey pictures. A matrix that grows by a row. -/
import Derived.Test.YtgbciimfpahekaaDoorMatC
namespace Go.Proofs.YtgbciimfpahekaaDoor
open Go.RowKit

end Go.Proofs.YtgbciimfpahekaaDoor

namespace Go.Proofs.YtgbciimfpahekaaDoor
open Go.RowKit

theorem MatAt.push {w1 w2 w3 : World} {lo hi hi2 : Nat} {A : Option Addr} {c : Nat} {vs : List Value} {rows : List (List Int)} (h : MatAt w1 lo hi A c vs rows) (hb : Below w1.heap.size w1 w2) {o : Obj} {Ar : Option Addr} {cr : Nat} {r : List Int}
    (ho : w2.ownsRow hi2 2 1 (.slice Ar r.length cr) r.length (ints r)) (hlo : lo ≤ hi2) (hh : hi ≤ hi2) (hg : (w2.alloc o).grownBy w3 (Value.slice A rows.length c).ownBlock) {g3 cap3 : Nat}
    (hout : w3.ownsRow lo 93 1 (.slice (some ⟨g3, 0, none⟩) (rows.length + 1) cap3) (rows.length + 1) (vs ++ [.slice Ar r.length cr])) :
    MatAt w3 lo w3.heap.size (some ⟨g3, 0, none⟩) cap3 (vs ++ [.slice Ar r.length cr]) (rows ++ [r]) := by
  have hvl : vs.length = rows.length := by have := h.outer.1; omega
  have hout1 := own_ext hb h.outer
  have keep : ∀ {b : Nat} {v : Value} {n : Nat} {xs : List Value}, w2.ownsRow b 2 1 v n xs → w3.ownsRow b 2 1 v n xs := by
    intro b v n xs hv
    refine World.ownsRow.kept (hv.alloc o) hg ?_
    cases e : v.ownBlock with
    | none => exact .inl rfl
    | some g => exact .inr (fun e2 => own_own_ne hv hout1 (by decide) e e2.symm)
  have old : ∀ i (hir : i < rows.length), ∃ Ai ci, vs[i]? = some (.slice Ai rows[i].length ci) ∧ w3.ownsRow lo 2 1 (.slice Ai rows[i].length ci) rows[i].length (ints rows[i]) ∧ ∀ a, Ai = some a → a.block < hi := by
    intro i hir
    obtain ⟨Ai, ci, h1, h2, h3⟩ := h.row i hir
    exact ⟨Ai, ci, h1, keep (own_ext hb h2), h3⟩
  refine ⟨by rw [List.length_append]; exact hout, fun a ha => by cases ha; exact (hout.lt _ rfl).2, fun i hi' => ?_, fun i j u v g hij hu hv hg' => ?_⟩
  · by_cases e : i < rows.length
    · obtain ⟨Ai, ci, h1, h2, h3⟩ := old i e
      refine ⟨Ai, ci, ?_, ?_, fun a ha => by subst ha; exact (h2.lt _ rfl).2⟩
      · rw [List.getElem?_append_left (by omega), List.getElem_append_left e]; exact h1
      · rw [List.getElem_append_left e]; exact h2
    · have e' : i = rows.length := by simp at hi'; omega
      subst e'
      refine ⟨Ar, cr, ?_, ?_, fun a ha => by subst ha; exact ((keep ho).lt _ rfl).2⟩
      · rw [List.getElem?_append_right (by omega), hvl]; simp
      · simp only [List.getElem_append_right (Nat.le_refl _), Nat.sub_self, List.getElem_cons_zero]
        exact own_base (keep ho) hlo
  · have last : ∀ (k : Nat) (x : Value), (vs ++ [Value.slice Ar r.length cr])[k]? = some x → (k < rows.length ∧ vs[k]? = some x) ∨ (k = rows.length ∧ x = .slice Ar r.length cr) := by
      intro k x hx
      by_cases e : k < rows.length
      · rw [List.getElem?_append_left (by omega)] at hx
        exact .inl ⟨e, hx⟩
      · rw [List.getElem?_append_right (by omega), hvl] at hx
        have : k - rows.length = 0 := by
          rcases Nat.eq_zero_or_pos (k - rows.length) with h0 | h0
          · exact h0
          · rw [List.getElem?_eq_none (by simp; omega)] at hx; cases hx
        rw [this] at hx
        refine .inr ⟨by omega, by simpa using hx.symm⟩
    have low : ∀ (k : Nat) (x : Value) (g : Nat), k < rows.length → vs[k]? = some x → x.ownBlock = some g → g < hi := by
      intro k x g hk hx hgx
      obtain ⟨Ai, ci, h1, _, h3⟩ := old k hk
      rw [hx] at h1
      obtain rfl := Option.some.inj h1
      cases Ai with
      | none => simp [Value.ownBlock] at hgx
      | some a =>
        simp only [Value.ownBlock, Option.some.injEq] at hgx
        rw [← hgx]; exact h3 a rfl
    rcases last i u hu with ⟨hi1, hu1⟩ | ⟨hi1, rfl⟩
    · rcases last j v hv with ⟨hj1, hv1⟩ | ⟨hj1, rfl⟩
      · exact h.apart i j u v g hij hu1 hv1 hg'
      · intro hg2
        have h1 := low i u g hi1 hu1 hg'
        have h2 := (ho.lt g hg2).1
        omega
    · rcases last j v hv with ⟨hj1, hv1⟩ | ⟨hj1, rfl⟩
      · intro hg2
        have h1 := low j v g hj1 hv1 hg2
        have h2 := (ho.lt g hg').1
        omega
      · omega
theorem MatAt.put {w : World} {lo hi : Nat} {A : Option Addr} {c : Nat} {vs : List Value} {rows : List (List Int)} (h : MatAt w lo hi A c vs rows) {y x : Nat} (hy : y < rows.length) (hx : x < rows[y].length) :
    ∃ g gr cy, A = some ⟨g, 0, none⟩ ∧ g < w.heap.size ∧ w.cell? ⟨g, y, none⟩ = some (.slice (some ⟨gr, 0, none⟩) rows[y].length cy) ∧ lo ≤ gr ∧ gr < hi ∧ gr < w.heap.size ∧ w.frozen? ⟨gr, x, none⟩ = false ∧ w.cell? ⟨gr, x, none⟩ = some (.int .i64 rows[y][x]) ∧
      ∀ v, MatAt (w.setCell ⟨gr, x, none⟩ (.int .i64 v)) lo hi A c vs (rows.set y (rows[y].set x v)) := by
  obtain ⟨g, rfl, hg, _⟩ := h.rd (by omega)
  obtain ⟨Ay, cy, hv, ho, ht⟩ := h.row y hy
  obtain ⟨gr, rfl, hgr, hcr⟩ := (Rd.of_own ho) (by simp [ints]; omega)
  have hcell := (h.outer.cellAt y (by omega)).trans hv
  have hb := ho.lt gr rfl
  refine ⟨g, gr, cy, rfl, hg, hcell, hb.1, ht _ rfl, hb.2, ho.frozenAt x, ?_, fun v => ?_⟩
  · have := ho.cellAt x (by omega)
    rw [this]; simp [ints, hx]
  · refine h.turn hy hv ht _ (by simp) ?_ ((Chg.refl _ _).store (p := ⟨gr, x, none⟩) ⟨_, rfl, rfl⟩ _)
    have := (ho.stored x (.int .i64 v)).1
    rwa [show (ints rows[y]).set x (.int .i64 v) = ints (rows[y].set x v) from by simp [ints, List.map_set]] at this

theorem MatAt.nil (w : World) (lo hi : Nat) (A : Option Addr) (c : Nat) (h : w.ownsRow lo 93 1 (.slice A 0 c) 0 []) (ht : ∀ a, A = some a → a.block < hi) : MatAt w lo hi A c [] [] :=
  ⟨h, ht, fun i hi => absurd hi (Nat.not_lt_zero _), fun i j u v g _ hu => by simp at hu⟩

theorem MatAt.low {w : World} {lo lo' hi hi' : Nat} {A : Option Addr} {c : Nat} {vs : List Value} {rows : List (List Int)} (h : MatAt w lo hi A c vs rows) (h1 : lo' ≤ lo) (h2 : hi ≤ hi') : MatAt w lo' hi' A c vs rows :=
  ⟨own_base h.outer h1, fun a ha => Nat.lt_of_lt_of_le (h.top a ha) h2, fun i hi => (by obtain ⟨Ai, ci, a1, a2, a3⟩ := h.row i hi; exact ⟨Ai, ci, a1, own_base a2 h1, fun a ha => Nat.lt_of_lt_of_le (a3 a ha) h2⟩), h.apart⟩

end Go.Proofs.YtgbciimfpahekaaDoor
