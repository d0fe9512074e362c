/- The reference's neighbours of a place, and the numbers of a grey picture in one row. The least heights of ways: the reference's search. The least heights of ways: the reference's search, walked. -/
import Derived.Test.YtdhajndmebnknaaGreatRem
namespace Go.Proofs.YtdhajndmebnknaaGreat
open Go.RowKit

def stepL : List (Int × Int) := [(0, -1), (-1, 0), (1, 0), (0, 1)]
theorem stepL_ar (x y : Int) (j : Nat) (hj : j < 4) : (arL x y).getD j (0, 0) = (x + (stepL.getD j (0, 0)).1, y + (stepL.getD j (0, 0)).2) := by
  have e : j = 0 ∨ j = 1 ∨ j = 2 ∨ j = 3 := by omega
  rcases e with e | e | e | e <;> subst e <;> simp [arL, stepL] <;> rfl
/-- The places of the neighbours, those of the first j steps. -/
def nearTo (W H k : Nat) (j : Nat) : List Int := (((arL ((k % W : Nat) : Int) ((k / W : Nat) : Int)).take j).filter (inG W H)).map fun p => ((plc W p : Nat) : Int)
def nearI (W H k : Nat) : List Int := nearTo W H k 4
theorem nearTo_succ (W H k j : Nat) (hj : j < 4) : nearTo W H k (j + 1) = if inG W H ((arL ((k % W : Nat) : Int) ((k / W : Nat) : Int)).getD j (0, 0)) = true then nearTo W H k j ++ [((plc W ((arL ((k % W : Nat) : Int) ((k / W : Nat) : Int)).getD j (0, 0)) : Nat) : Int)] else nearTo W H k j := by
  have hl : j < (arL ((k % W : Nat) : Int) ((k / W : Nat) : Int)).length := hj
  unfold nearTo
  rw [List.take_succ_eq_append_getElem hl, List.filter_append, List.map_append, List.getD_eq_getElem?_getD, List.getElem?_eq_getElem hl, Option.getD_some]
  generalize (arL ((k % W : Nat) : Int) ((k / W : Nat) : Int))[j] = q
  cases h : inG W H q <;> simp [h]
theorem nearTo_len (W H k : Nat) (j : Nat) : (nearTo W H k j).length ≤ 4 := by
  have h1 : (nearTo W H k j).length ≤ (arL ((k % W : Nat) : Int) ((k / W : Nat) : Int)).length := by
    unfold nearTo
    rw [List.length_map]
    exact Nat.le_trans (List.length_filter_le _ _) (by simp; omega)
  exact h1
theorem nearI_adj {W H k : Nat} (hW : 0 < W) (hk : k < W * H) {v : Int} (h : v ∈ nearI W H k) : ∃ s : Nat, v = s ∧ adj W (W * H) k s := by
  obtain ⟨e, hm⟩ := pl_eq (W := W) k hW
  have hr := pl_row hk
  unfold nearI nearTo at h
  rw [List.mem_map] at h
  obtain ⟨q, hq, rfl⟩ := h
  rw [List.mem_filter] at hq
  obtain ⟨h1, h2⟩ := hq
  refine ⟨_, rfl, ?_⟩
  have h3 : q ∈ arL ((k % W : Nat) : Int) ((k / W : Nat) : Int) := List.mem_of_mem_take h1
  obtain ⟨j, hj, rfl⟩ := List.getElem_of_mem h3
  have h4 := arL_adj (W := W) (H := H) hm hr j hj (by rw [List.getD_eq_getElem?_getD, List.getElem?_eq_getElem hj]; exact h2)
  rw [List.getD_eq_getElem?_getD, List.getElem?_eq_getElem hj, Option.getD_some, ← e] at h4
  exact h4.symm
theorem nearI_all {W H k s : Nat} (hW : 0 < W) (h : adj W (W * H) k s) : ((s : Nat) : Int) ∈ nearI W H k := by
  obtain ⟨e, hm⟩ := pl_eq (W := W) k hW
  have hr := pl_row h.1
  have h1 := h.symm
  rw [e] at h1
  obtain ⟨j, hj, h2, h3⟩ := arL_all hm hr h1
  have hl : j < (arL ((k % W : Nat) : Int) ((k / W : Nat) : Int)).length := hj
  rw [List.getD_eq_getElem?_getD, List.getElem?_eq_getElem hl, Option.getD_some] at h2 h3
  unfold nearI nearTo
  rw [List.mem_map]
  refine ⟨_, ?_, by rw [h3]⟩
  rw [List.mem_filter]
  refine ⟨?_, h2⟩
  have : (arL ((k % W : Nat) : Int) ((k / W : Nat) : Int)).take 4 = arL ((k % W : Nat) : Int) ((k / W : Nat) : Int) := List.take_of_length_le (by simp [arL])
  rw [this]
  exact List.getElem_mem _

theorem SpAt.grown {w w' : World} {g : Nat} {L : List (Int × Int)} (h : SpAt w g L) {row : Option Nat} (hg : w.grownBy w' row) (hne : some g ≠ row) : SpAt w' g L := by
  refine ⟨Nat.lt_of_lt_of_le h.1 hg.size, fun i hi => ⟨?_, ?_⟩⟩
  · exact (hg.cell_far ⟨g, _, none⟩ h.1 hne).trans (h.2 i hi).1
  · exact (hg.cell_far ⟨g, _, none⟩ h.1 hne).trans (h.2 i hi).2
end Go.Proofs.YtdhajndmebnknaaGreat

namespace Go.Proofs.YtdhajndmebnknaaGreat
open Go.RowKit

def fL {α : Type} (O : Nat → α) (n : Nat) : List α := (List.range n).map O
theorem fL_length {α : Type} (O : Nat → α) (n : Nat) : (fL O n).length = n := by simp [fL]
theorem fL_get {α : Type} (O : Nat → α) (n i : Nat) (h : i < (fL O n).length) : (fL O n)[i] = O i := by simp [fL]
theorem fL_set (O : Nat → Int) (n s : Nat) (v : Int) : (fL O n).set s v = fL (setF O s v) n := by
  apply List.ext_getElem
  · simp [fL]
  · intro i h1 h2
    rw [List.getElem_set]
    by_cases e : s = i
    · subst e; rw [if_pos rfl, fL_get, setF_same]
    · rw [if_neg e, fL_get, fL_get, setF_ne (Ne.symm e)]
def mark (D : Nat → Bool) (b : Nat) : Nat → Bool := fun i => if i = b then true else D i
theorem fL_mark (D : Nat → Bool) (n s : Nat) : (fL D n).set s true = fL (mark D s) n := by
  apply List.ext_getElem
  · simp [fL]
  · intro i h1 h2
    rw [List.getElem_set]
    by_cases e : s = i
    · subst e; rw [if_pos rfl, fL_get]; simp [mark]
    · rw [if_neg e, fL_get, fL_get]; simp [mark, Ne.symm e]
def intC (L : List Int) : Array Value := (ints L).toArray
theorem intC_get (L : List Int) (i : Nat) (h : i < L.length) : (intC L)[i]? = some (.int .i64 L[i]) := by simp [intC, ints, h]
theorem intC_set (L : List Int) (i : Nat) (v : Int) : (intC L).setIfInBounds i (.int .i64 v) = intC (L.set i v) := by
  apply Array.ext'
  simp [intC, ints, List.map_set]
theorem intC_made (n : Nat) : madeCells #[Value.int .i64 0] n = intC (fL (fun _ => 0) n) := by
  apply Array.ext'
  rw [toList_madeCells_one]
  apply List.ext_getElem <;> simp [intC, ints, fL]
theorem boolC_made' (n : Nat) : madeCells #[Value.bool false] n = boolC (fL (fun _ => false) n) := by
  rw [boolC_made]
  congr 1
  apply List.ext_getElem <;> simp [fL]
/-- How many of the first n places are done. -/
def cntD (D : Nat → Bool) : Nat → Nat
  | 0 => 0
  | k + 1 => cntD D k + if D k then 1 else 0
theorem cntD_le (D : Nat → Bool) : ∀ n, cntD D n ≤ n := by
  intro n
  induction n with
  | zero => exact Nat.le_refl _
  | succ n ih => rw [cntD]; split <;> omega
theorem cntD_all (D : Nat → Bool) : ∀ n, cntD D n = n → ∀ i, i < n → D i = true := by
  intro n
  induction n with
  | zero => intro _ i h; omega
  | succ n ih =>
    intro h i hi
    have := cntD_le D n
    rw [cntD] at h
    by_cases e : D n = true
    · rw [if_pos e] at h
      by_cases e2 : i = n
      · subst e2; exact e
      · exact ih (by omega) i (by omega)
    · rw [if_neg e] at h; omega
theorem cntD_some (D : Nat → Bool) : ∀ n, (∀ i, i < n → D i = true) → cntD D n = n := by
  intro n
  induction n with
  | zero => intro _; rfl
  | succ n ih => intro h; rw [cntD, ih (fun i hi => h i (by omega)), if_pos (h n (by omega))]
theorem cntD_out (D : Nat → Bool) (b : Nat) : ∀ n, n ≤ b → cntD (mark D b) n = cntD D n := by
  intro n
  induction n with
  | zero => intro _; rfl
  | succ n ih =>
    intro h
    have e : mark D b n = D n := by simp [mark, show n ≠ b by omega]
    rw [cntD, cntD, ih (by omega), e]
theorem cntD_mark (D : Nat → Bool) (b : Nat) (hD : D b = false) : ∀ n, b < n → cntD (mark D b) n = cntD D n + 1 := by
  intro n
  induction n with
  | zero => intro h; omega
  | succ n ih =>
    intro h
    by_cases e : b = n
    · subst e
      have e1 : mark D b b = true := by simp [mark]
      rw [cntD, cntD, cntD_out D b b (Nat.le_refl _), e1, hD]
      simp
    · have e1 : mark D b n = D n := by simp [mark, show n ≠ b by omega]
      rw [cntD, cntD, ih (by omega), e1]
      omega
/-- The first of the least that are not done among the first i places. -/
def bestOk (O : Nat → Int) (D : Nat → Bool) (i : Nat) (b : Int) : Prop :=
  (b = -1 ∧ ∀ j, j < i → D j = true) ∨ ∃ k : Nat, b = k ∧ k < i ∧ D k = false ∧ ∀ j, j < i → D j = false → O k ≤ O j

theorem intInfo : (Tryz.prog.info? 2).map (fun i => (i.zero, i.size, i.bytes)) = some (some (.int .i64 0), 1, 8) := by kernel_rfl

/-- What the search holds. -/
structure PasInv (w0 : World) (lo bo bd n : Nat) (O : Nat → Int) (D : Nat → Bool) (wr : World) : Prop where
  out : Blk wr bo 2 (intC (fL O n))
  done : Blk wr bd 4 (boolC (fL D n))
  ext : Below lo w0 wr
section
variable {w0 : World} {lo bo bd n : Nat} {O : Nat → Int} {D : Nat → Bool} {wr : World}
theorem PasInv.step (h : PasInv w0 lo bo bd n O D wr) {w' : World} (hb : Below wr.heap.size wr w') (hlo : lo ≤ bo) : PasInv w0 lo bo bd n O D w' :=
  ⟨h.out.under hb h.out.lt, h.done.under hb h.done.lt, h.ext.trans (hb.mono (by have := h.out.lt; omega))⟩
theorem PasInv.drewN (h : PasInv w0 lo bo bd n O D wr) (q : Nat) : PasInv w0 lo bo bd n O D (wr.drewN q) :=
  ⟨h.out, h.done, ⟨h.ext.os, h.ext.tape, h.ext.output, h.ext.size, h.ext.block⟩⟩
theorem PasInv.o (h : PasInv w0 lo bo bd n O D wr) {i : Nat} (hi : i < n) : wr.cell? ⟨bo, i, none⟩ = some (.int .i64 (O i)) := by
  rw [h.out.cell i, intC_get _ _ (by rw [fL_length]; exact hi), fL_get]
theorem PasInv.d (h : PasInv w0 lo bo bd n O D wr) {i : Nat} (hi : i < n) : wr.cell? ⟨bd, i, none⟩ = some (.bool (D i)) := by
  rw [h.done.cell i, boolC_get _ _ (by rw [fL_length]; exact hi), fL_get]
theorem PasInv.putO (h : PasInv w0 lo bo bd n O D wr) (hlo : lo ≤ bo) (s : Nat) (v : Int) : PasInv w0 lo bo bd n (setF O s v) D (wr.setCell ⟨bo, s, none⟩ (.int .i64 v)) := by
  refine ⟨?_, h.done.apart (p := ⟨bo, s, none⟩) (fun e => h.done.ne h.out (by decide) e) _, h.ext.setCell (p := ⟨bo, s, none⟩) hlo _⟩
  have := h.out.store s (.int .i64 v)
  rwa [intC_set, fL_set] at this
theorem PasInv.putD (h : PasInv w0 lo bo bd n O D wr) (hlo : lo ≤ bd) (s : Nat) : PasInv w0 lo bo bd n O (mark D s) (wr.setCell ⟨bd, s, none⟩ (.bool true)) := by
  refine ⟨h.out.apart (p := ⟨bd, s, none⟩) (fun e => h.out.ne h.done (by decide) e) _, ?_, h.ext.setCell (p := ⟨bd, s, none⟩) hlo _⟩
  have := h.done.store s (.bool true)
  rwa [boolC_set, fL_mark] at this
end
end Go.Proofs.YtdhajndmebnknaaGreat

namespace Go.Proofs.YtdhajndmebnknaaGreat
open Go.RowKit

theorem ownsForm {w : World} {base : Nat} {e : TypeId} {size n c : Nat} {A : Option Addr} {xs : List Value} (h : w.ownsRow base e size (.slice A n c) n xs) (hn : 0 < n) : ∃ g cap, (Value.slice A n c) = .slice (some ⟨g, 0, none⟩) n cap := by
  rcases h.2 with ⟨_, h0⟩ | ⟨g, cap, cur, hv, _⟩
  · omega
  · exact ⟨g, cap, hv⟩
end Go.Proofs.YtdhajndmebnknaaGreat
