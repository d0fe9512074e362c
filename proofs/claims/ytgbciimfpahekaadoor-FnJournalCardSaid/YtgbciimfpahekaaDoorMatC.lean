/- Matrices of numbers that came in: their size, a copy of them. Matrices that came in: size and copy. Matrices that came in: the copy. -/
import Derived.Test.YtgbciimfpahekaaDoorMat
namespace Go.Proofs.YtgbciimfpahekaaDoor
open Go.RowKit

def MatRdA (w : World) (A : Option Addr) (rows : List (List Int)) : Prop :=
  0 < rows.length → ∃ a, A = some a ∧ a.block < w.heap.size ∧ ∀ i (h : i < rows.length), ∃ Ai ci, w.cell? (a.add i) = some (.slice Ai rows[i].length ci) ∧ RdA w Ai (ints rows[i])
theorem MatRdA.ext {w w' : World} {A : Option Addr} {rows : List (List Int)} (h : MatRdA w A rows) (hb : Below w.heap.size w w') : MatRdA w' A rows := by
  intro hn
  obtain ⟨g, e, hg, hc⟩ := h hn
  refine ⟨g, e, Nat.lt_of_lt_of_le hg hb.size, fun i hi => ?_⟩
  obtain ⟨Ai, ci, h1, h2⟩ := hc i hi
  exact ⟨Ai, ci, (hb.cell (by rw [Addr.add_block']; exact hg)).trans h1, h2.ext hb⟩
theorem RdA.int {w : World} {A : Option Addr} {L : List Int} (h : RdA w A (ints L)) : 0 < L.length → ∃ a, A = some a ∧ a.block < w.heap.size ∧ ∀ i (h : i < L.length), w.cell? (a.add i) = some (.int .i64 L[i]) := by
  intro hn
  obtain ⟨a, e, ha, hc⟩ := h (by simpa [ints] using hn)
  exact ⟨a, e, ha, fun i hi => by rw [hc i (by simpa [ints] using hi)]; simp [ints]⟩

end Go.Proofs.YtgbciimfpahekaaDoor

namespace Go.Proofs.YtgbciimfpahekaaDoor
open Go.RowKit

/-- A copy of a matrix in the making. -/
structure MatTo (B : Nat) (w : World) (rows : List (List Int)) (us : List Value) (n k : Nat) (wr : World) : Prop where
  outer : wr.ownsRow B 93 1 (.slice (some ⟨B, 0, none⟩) n n) n us
  row : ∀ i (h : i < rows.length), i < k → ∃ Ai ci, us[i]? = some (.slice Ai rows[i].length ci) ∧ wr.ownsRow B 2 1 (.slice Ai rows[i].length ci) rows[i].length (ints rows[i])
  apart : ∀ (i j : Nat) (u v : Value) (g : Nat), i < k → j < k → i ≠ j → us[i]? = some u → us[j]? = some v → u.ownBlock = some g → v.ownBlock ≠ some g
  ext : Below B w wr

theorem MatTo.step {B : Nat} {w : World} {rows : List (List Int)} {us : List Value} {n k : Nat} {wr : World} (h : MatTo B w rows us n k wr) (hB : B ≤ wr.heap.size) (hk : k < rows.length) (hn : rows.length = n) {w' : World} {A' : Option Addr} {c' : Nat}
    (ho : w'.ownsRow wr.heap.size 2 1 (.slice A' rows[k].length c') rows[k].length (ints rows[k])) (hb : Below wr.heap.size wr w') :
    MatTo B w rows (us.set k (.slice A' rows[k].length c')) n (k + 1) (w'.setCell ⟨B, k, none⟩ (.slice A' rows[k].length c')) := by
  have h1 := own_ext hb h.outer
  have h2 := (h1.stored k (.slice A' rows[k].length c')).1
  have hul : us.length = n := by have := h.outer.1; omega
  have hne : (Value.slice A' rows[k].length c').ownBlock ≠ some B := own_own_ne h1 ho (by decide) rfl
  have keep : ∀ {v : Value} {m : Nat} {xs : List Value}, w'.ownsRow B 2 1 v m xs → (w'.setCell ⟨B, k, none⟩ (.slice A' rows[k].length c')).ownsRow B 2 1 v m xs := by
    intro v m xs hv
    exact ((Chg.refl (fun b => b = B) w').store (p := ⟨B, k, none⟩) rfl _).own hv (fun g hg e => own_own_ne h1 hv (by decide) rfl (by rw [hg, e]))
  refine ⟨h2, fun i hi hik => ?_, fun i j u v g hi hj hij hu hv hg => ?_, ?_⟩
  · by_cases e : i = k
    · subst e
      refine ⟨A', c', by rw [List.getElem?_set_self (by omega)], keep (own_base ho hB)⟩
    · obtain ⟨Ai, ci, hx, hy⟩ := h.row i hi (by omega)
      exact ⟨Ai, ci, by rw [List.getElem?_set_ne (Ne.symm e)]; exact hx, keep (own_ext hb hy)⟩
  · by_cases e : i = k
    · subst e
      rw [List.getElem?_set_self (by omega)] at hu
      rw [List.getElem?_set_ne (by omega)] at hv
      obtain rfl := Option.some.inj hu
      obtain ⟨Aj, cj, hx, hy⟩ := h.row j (by omega) (by omega)
      rw [hv] at hx
      obtain rfl := Option.some.inj hx
      intro hg2
      have := (ho.lt g hg).1
      have := (hy.lt g hg2).2
      omega
    · rw [List.getElem?_set_ne (Ne.symm e)] at hu
      by_cases e2 : j = k
      · subst e2
        rw [List.getElem?_set_self (by omega)] at hv
        obtain rfl := Option.some.inj hv
        obtain ⟨Ai, ci, hx, hy⟩ := h.row i (by omega) (by omega)
        rw [hu] at hx
        obtain rfl := Option.some.inj hx
        intro hg2
        have := (ho.lt g hg2).1
        have := (hy.lt g hg).2
        omega
      · rw [List.getElem?_set_ne (Ne.symm e2)] at hv
        exact h.apart i j u v g (by omega) (by omega) hij hu hv hg
  · exact (h.ext.trans (hb.mono hB)).setCell (p := ⟨B, k, none⟩) (Nat.le_refl _) _
end Go.Proofs.YtgbciimfpahekaaDoor

namespace Go.Proofs.YtgbciimfpahekaaDoor
open Go.RowKit

end Go.Proofs.YtgbciimfpahekaaDoor
