/- slices.IndexFunc and slices.ContainsFunc, at whatever function value that makes memory of its own alone. Grey pictures: whether valid: the reference's test and the program's. Grey pictures: whether valid: the program's test; sizes. -/
import Derived.Test.YtdhajndmebnknaaGreatEq
import Derived.Test.YtdhajndmebnknaaGreatPicL
import Derived.Test.YtdhajndmebnknaaGreatMatP
import Derived.Test.YtdhajndmebnknaaGreatSIs
import Derived.Test.YtdhajndmebnknaaGreatImgOf
namespace Go.Proofs.YtdhajndmebnknaaGreat
open Go.RowKit

/-- The first of n places at which b holds; -1. -/
def IdxF (b : Nat → Bool) (n : Nat) (r : Int) : Prop := (∃ k : Nat, r = k ∧ k < n ∧ b k = true ∧ ∀ j, j < k → b j = false) ∨ (r = -1 ∧ ∀ j, j < n → b j = false)
theorem IdxF.any {b : Nat → Bool} {n : Nat} {r : Int} (h : IdxF b n r) : decide (0 ≤ r) = (List.range n).any b := by
  rcases h with ⟨k, rfl, hk, hb, _⟩ | ⟨rfl, hb⟩
  · have : (List.range n).any b = true := List.any_eq_true.2 ⟨k, by simpa using hk, hb⟩
    rw [this]; simp
  · have : (List.range n).any b = false := by
      rw [List.any_eq_false]
      intro x hx
      rw [hb x (by simpa using hx)]; simp
    rw [this]; decide

end Go.Proofs.YtdhajndmebnknaaGreat

namespace Go.Proofs.YtdhajndmebnknaaGreat
open Go.RowKit

/-- A box with a grey picture. -/
structure GreyAt (w : World) (p : Nat) (A : Option Addr) (c : Nat) (rows : List (List Int)) : Prop where
  lt : p < w.heap.size
  cell : w.cell? ⟨p, 0, none⟩ = some (.slice A rows.length c)
  rd : MatRd w A rows
theorem GreyAt.ext {w w' : World} {p : Nat} {A : Option Addr} {c : Nat} {rows : List (List Int)} (h : GreyAt w p A c rows) (hb : Below w.heap.size w w') : GreyAt w' p A c rows :=
  ⟨Nat.lt_of_lt_of_le h.lt hb.size, (hb.cell (p := ⟨p, 0, none⟩) h.lt).trans h.cell, h.rd.ext hb⟩
theorem GreyAt.drewN {w : World} {p : Nat} {A : Option Addr} {c : Nat} {rows : List (List Int)} (h : GreyAt w p A c rows) (k : Nat) : GreyAt (w.drewN k) p A c rows := ⟨h.lt, h.cell, h.rd⟩
theorem GreyAt.boxed {w : World} {A : Option Addr} {c : Nat} {rows : List (List Int)} (h : MatRd w A rows) (t : TypeId) : GreyAt (w.alloc (.cells #[.slice A rows.length c] t)) w.heap.size A c rows :=
  ⟨by simp, cell_new _ _ _ _, h.ext (Ext.more (Ext.refl _) _)⟩

def tabW (rows : List (List Int)) : Nat := (rows.headD []).length
def rowN (most : Int) (W : Nat) (r : List Int) : Bool := decide (r.length = W) && r.all fun n => inB n 0 most
def tabSz (rows : List (List Int)) : Bool := inB (tabW rows) 1 16 && inB rows.length 1 16
def tabOk (most : Int) (rows : List (List Int)) : Bool := tabSz rows && rows.all (rowN most (tabW rows))
def greyOk (rows : List (List Int)) : Bool := tabOk 99 rows
theorem tabW_head {rows : List (List Int)} (h : 0 < rows.length) : rows[0].length = tabW rows := by
  cases rows with
  | nil => simp at h
  | cons r rest => rfl
theorem tab_sizes {most : Int} {rows : List (List Int)} (h : tabOk most rows = true) : 0 < rows.length ∧ rows.length ≤ 16 ∧ 0 < tabW rows ∧ tabW rows ≤ 16 := by
  simp only [tabOk, tabSz, Bool.and_eq_true, inB_iff] at h; omega
theorem tab_row {most : Int} {rows : List (List Int)} (h : tabOk most rows = true) (y : Nat) (hy : y < rows.length) : rows[y].length = tabW rows := by
  simp only [tabOk, Bool.and_eq_true, List.all_eq_true] at h
  have := h.2 rows[y] (List.getElem_mem _)
  simp only [rowN, Bool.and_eq_true, decide_eq_true_eq] at this
  exact this.1
theorem tab_num {most : Int} {rows : List (List Int)} (h : tabOk most rows = true) (y x : Nat) (hy : y < rows.length) (hx : x < rows[y].length) : 0 ≤ rows[y][x] ∧ rows[y][x] ≤ most := by
  simp only [tabOk, Bool.and_eq_true, List.all_eq_true] at h
  have := h.2 rows[y] (List.getElem_mem _)
  simp only [rowN, Bool.and_eq_true, List.all_eq_true] at this
  exact inB_iff.1 (this.2 _ (List.getElem_mem _))
theorem tab_no {most : Int} {rows : List (List Int)} (y : Nat) (hy : y < rows.length) (h : rowN most (tabW rows) rows[y] = false) : tabOk most rows = false := by
  have : rows.all (rowN most (tabW rows)) = false := by
    rw [List.all_eq_false]
    exact ⟨rows[y], List.getElem_mem _, by rw [h]; decide⟩
  simp [tabOk, this]
theorem tab_yes {most : Int} {rows : List (List Int)} (hs : tabSz rows = true) (h : ∀ j (hj : j < rows.length), rowN most (tabW rows) rows[j] = true) : tabOk most rows = true := by
  have : rows.all (rowN most (tabW rows)) = true := by
    rw [List.all_eq_true]
    intro r hr
    obtain ⟨i, hi, rfl⟩ := List.getElem_of_mem hr
    exact h i hi
  simp [tabOk, hs, this]
theorem rowN_len {most : Int} {W : Nat} {r : List Int} (h : ¬ r.length = W) : rowN most W r = false := by simp [rowN, h]
theorem rowN_no {most : Int} {W : Nat} {r : List Int} (x : Nat) (hx : x < r.length) (h : inB r[x] 0 most = false) : rowN most W r = false := by
  have : (r.all fun n => inB n 0 most) = false := by
    rw [List.all_eq_false]
    exact ⟨r[x], List.getElem_mem _, by rw [h]; decide⟩
  simp [rowN, this]
theorem rowN_yes {most : Int} {W : Nat} {r : List Int} (hl : r.length = W) (h : ∀ x (hx : x < r.length), inB r[x] 0 most = true) : rowN most W r = true := by
  have : (r.all fun n => inB n 0 most) = true := by
    rw [List.all_eq_true]
    intro n hn
    obtain ⟨i, hi, rfl⟩ := List.getElem_of_mem hn
    exact h i hi
  simp [rowN, hl, this]

end Go.Proofs.YtdhajndmebnknaaGreat

namespace Go.Proofs.YtdhajndmebnknaaGreat
open Go.RowKit

end Go.Proofs.YtdhajndmebnknaaGreat
