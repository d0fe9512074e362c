/- The least heights of ways: the reference's search. -/
import Derived.Test.YtajepoopicoodaaNea
namespace Go.Proofs.Ytajepoopicoodaa
open Go.RowKit

def fL {α : Type} (O : Nat → α) (n : Nat) : List α := (List.range n).map O
theorem fL_length {α : Type} (O : Nat → α) (n : Nat) : (fL O n).length = n := by simp [fL]
theorem fL_get {α : Type} (O : Nat → α) (n i : Nat) (h : i < (fL O n).length) : (fL O n)[i] = O i := by simp [fL]
theorem fL_set (O : Nat → Int) (n s : Nat) (v : Int) : (fL O n).set s v = fL (setF O s v) n := by
  apply List.ext_getElem
  · simp [fL]
  · intro i h1 h2
    rw [List.getElem_set]
    by_cases e : s = i
    · subst e; rw [if_pos rfl, fL_get, setF_same]
    · rw [if_neg e, fL_get, fL_get, setF_ne (Ne.symm e)]
def mark (D : Nat → Bool) (b : Nat) : Nat → Bool := fun i => if i = b then true else D i
theorem fL_mark (D : Nat → Bool) (n s : Nat) : (fL D n).set s true = fL (mark D s) n := by
  apply List.ext_getElem
  · simp [fL]
  · intro i h1 h2
    rw [List.getElem_set]
    by_cases e : s = i
    · subst e; rw [if_pos rfl, fL_get]; simp [mark]
    · rw [if_neg e, fL_get, fL_get]; simp [mark, Ne.symm e]
def intC (L : List Int) : Array Value := (ints L).toArray
theorem intC_get (L : List Int) (i : Nat) (h : i < L.length) : (intC L)[i]? = some (.int .i64 L[i]) := by simp [intC, ints, h]
theorem intC_set (L : List Int) (i : Nat) (v : Int) : (intC L).setIfInBounds i (.int .i64 v) = intC (L.set i v) := by
  apply Array.ext'
  simp [intC, ints, List.map_set]
theorem intC_made (n : Nat) : madeCells #[Value.int .i64 0] n = intC (fL (fun _ => 0) n) := by
  apply Array.ext'
  rw [toList_madeCells_one]
  apply List.ext_getElem <;> simp [intC, ints, fL]
theorem boolC_made' (n : Nat) : madeCells #[Value.bool false] n = boolC (fL (fun _ => false) n) := by
  rw [boolC_made]
  congr 1
  apply List.ext_getElem <;> simp [fL]
/-- How many of the first n places are done. -/
def cntD (D : Nat → Bool) : Nat → Nat
  | 0 => 0
  | k + 1 => cntD D k + if D k then 1 else 0
theorem cntD_le (D : Nat → Bool) : ∀ n, cntD D n ≤ n := by
  intro n
  induction n with
  | zero => exact Nat.le_refl _
  | succ n ih => rw [cntD]; split <;> omega
theorem cntD_all (D : Nat → Bool) : ∀ n, cntD D n = n → ∀ i, i < n → D i = true := by
  intro n
  induction n with
  | zero => intro _ i h; omega
  | succ n ih =>
    intro h i hi
    have := cntD_le D n
    rw [cntD] at h
    by_cases e : D n = true
    · rw [if_pos e] at h
      by_cases e2 : i = n
      · subst e2; exact e
      · exact ih (by omega) i (by omega)
    · rw [if_neg e] at h; omega
theorem cntD_some (D : Nat → Bool) : ∀ n, (∀ i, i < n → D i = true) → cntD D n = n := by
  intro n
  induction n with
  | zero => intro _; rfl
  | succ n ih => intro h; rw [cntD, ih (fun i hi => h i (by omega)), if_pos (h n (by omega))]
theorem cntD_out (D : Nat → Bool) (b : Nat) : ∀ n, n ≤ b → cntD (mark D b) n = cntD D n := by
  intro n
  induction n with
  | zero => intro _; rfl
  | succ n ih =>
    intro h
    have e : mark D b n = D n := by simp [mark, show n ≠ b by omega]
    rw [cntD, cntD, ih (by omega), e]
theorem cntD_mark (D : Nat → Bool) (b : Nat) (hD : D b = false) : ∀ n, b < n → cntD (mark D b) n = cntD D n + 1 := by
  intro n
  induction n with
  | zero => intro h; omega
  | succ n ih =>
    intro h
    by_cases e : b = n
    · subst e
      have e1 : mark D b b = true := by simp [mark]
      rw [cntD, cntD, cntD_out D b b (Nat.le_refl _), e1, hD]
      simp
    · have e1 : mark D b n = D n := by simp [mark, show n ≠ b by omega]
      rw [cntD, cntD, ih (by omega), e1]
      omega
/-- The first of the least that are not done among the first i places. -/
def bestOk (O : Nat → Int) (D : Nat → Bool) (i : Nat) (b : Int) : Prop :=
  (b = -1 ∧ ∀ j, j < i → D j = true) ∨ ∃ k : Nat, b = k ∧ k < i ∧ D k = false ∧ ∀ j, j < i → D j = false → O k ≤ O j

theorem minS_any (a b : Int) (w : World) : Calls Try.prog 92 #[.int .i64 a, .int .i64 b] w fun e w' => e = .returned (.int .i64 (min a b)) ∧ w = w' := by
  by_cases h : a < b
  · have e : min a b = a := by omega
    rw [e]
    clear e
    go_enter Try.func92, Try.ntmps92
    go_wp2_with fail
    go_ret
    exact ⟨rfl, rfl⟩
  · have e : min a b = b := by omega
    rw [e]
    clear e
    go_enter Try.func92, Try.ntmps92
    go_wp2_with fail
    go_ret
    exact ⟨rfl, rfl⟩
theorem maxS_any' (a b : Int) (w : World) : Calls Try.prog 54 #[.int .i64 a, .int .i64 b] w fun e w' => e = .returned (.int .i64 (max a b)) ∧ w = w' := by
  by_cases h : b < a
  · have e : max a b = a := by omega
    rw [e]
    clear e
    go_enter Try.func54, Try.ntmps54
    go_wp2_with fail
    go_ret
    exact ⟨rfl, rfl⟩
  · have e : max a b = b := by omega
    rw [e]
    clear e
    go_enter Try.func54, Try.ntmps54
    go_wp2_with fail
    go_ret
    exact ⟨rfl, rfl⟩
theorem intInfo : (Try.prog.info? 2).map (fun i => (i.zero, i.size, i.bytes)) = some (some (.int .i64 0), 1, 8) := by kernel_rfl

/-- What the search holds. -/
structure PasInv (w0 : World) (lo bo bd n : Nat) (O : Nat → Int) (D : Nat → Bool) (wr : World) : Prop where
  out : Blk wr bo 2 (intC (fL O n))
  done : Blk wr bd 4 (boolC (fL D n))
  ext : Below lo w0 wr
section
variable {w0 : World} {lo bo bd n : Nat} {O : Nat → Int} {D : Nat → Bool} {wr : World}
theorem PasInv.step (h : PasInv w0 lo bo bd n O D wr) {w' : World} (hb : Below wr.heap.size wr w') (hlo : lo ≤ bo) : PasInv w0 lo bo bd n O D w' :=
  ⟨h.out.under hb h.out.lt, h.done.under hb h.done.lt, h.ext.trans (hb.mono (by have := h.out.lt; omega))⟩
theorem PasInv.drewN (h : PasInv w0 lo bo bd n O D wr) (q : Nat) : PasInv w0 lo bo bd n O D (wr.drewN q) :=
  ⟨h.out, h.done, ⟨h.ext.os, h.ext.tape, h.ext.output, h.ext.size, h.ext.block⟩⟩
theorem PasInv.o (h : PasInv w0 lo bo bd n O D wr) {i : Nat} (hi : i < n) : wr.cell? ⟨bo, i, none⟩ = some (.int .i64 (O i)) := by
  rw [h.out.cell i, intC_get _ _ (by rw [fL_length]; exact hi), fL_get]
theorem PasInv.d (h : PasInv w0 lo bo bd n O D wr) {i : Nat} (hi : i < n) : wr.cell? ⟨bd, i, none⟩ = some (.bool (D i)) := by
  rw [h.done.cell i, boolC_get _ _ (by rw [fL_length]; exact hi), fL_get]
theorem PasInv.putO (h : PasInv w0 lo bo bd n O D wr) (hlo : lo ≤ bo) (s : Nat) (v : Int) : PasInv w0 lo bo bd n (setF O s v) D (wr.setCell ⟨bo, s, none⟩ (.int .i64 v)) := by
  refine ⟨?_, h.done.apart (p := ⟨bo, s, none⟩) (fun e => h.done.ne h.out (by decide) e) _, h.ext.setCell (p := ⟨bo, s, none⟩) hlo _⟩
  have := h.out.store s (.int .i64 v)
  rwa [intC_set, fL_set] at this
theorem PasInv.putD (h : PasInv w0 lo bo bd n O D wr) (hlo : lo ≤ bd) (s : Nat) : PasInv w0 lo bo bd n O (mark D s) (wr.setCell ⟨bd, s, none⟩ (.bool true)) := by
  refine ⟨h.out.apart (p := ⟨bd, s, none⟩) (fun e => h.out.ne h.done (by decide) e) _, ?_, h.ext.setCell (p := ⟨bd, s, none⟩) hlo _⟩
  have := h.done.store s (.bool true)
  rwa [boolC_set, fL_mark] at this
end
end Go.Proofs.Ytajepoopicoodaa
