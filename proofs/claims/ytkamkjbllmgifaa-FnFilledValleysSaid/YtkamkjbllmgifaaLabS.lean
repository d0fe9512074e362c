/- The reference's pictures: made of a list. Pictures told of bits; the list of a picture's pixels. The reference's search from a place over black pixels. The labels of components: the reference's. -/
import Derived.Test.YtkamkjbllmgifaaSIs
import Derived.Test.YtkamkjbllmgifaaImgOf
import Derived.Test.YtkamkjbllmgifaaLab
import Derived.Test.YtkamkjbllmgifaaPasW
namespace Go.Proofs.Ytkamkjbllmgifaa
open Go.RowKit

def bools (L : List Bool) : List Value := L.map Value.bool
theorem boolT : ElemT 123 4 (.bool false) 1 1 := ⟨Try.underlying123, by kernel_rfl, rfl, by decide, by decide⟩

end Go.Proofs.Ytkamkjbllmgifaa

namespace Go.Proofs.Ytkamkjbllmgifaa
open Go.RowKit

/-- The first k bits by a function. -/
def bTo (f : Nat → Bool) (k : Nat) : List Bool := (List.range k).map f
theorem bTo_succ (f : Nat → Bool) (k : Nat) : bTo f (k + 1) = bTo f k ++ [f k] := by simp [bTo, List.range_succ]
theorem bTo_length (f : Nat → Bool) (k : Nat) : (bTo f k).length = k := by simp [bTo]
theorem bTo_get {b : Nat → Bool} {n i : Nat} (h : i < n) : (bTo b n).getD i false = b i := by simp [bTo, List.getD_eq_getElem?_getD, h]
theorem idx_lt {W H x y : Nat} (hx : x < W) (hy : y < H) : y * W + x < W * H := by
  have : y * W + W ≤ W * H := by rw [Nat.mul_comm W H, ← Nat.succ_mul]; exact Nat.mul_le_mul_right _ hy
  omega
theorem bit_bTo {b : Nat → Bool} {W H x y : Nat} (hx : x < W) (hy : y < H) : bit (bTo b (W * H)) W H x y = b (y * W + x) := by
  rw [bit_in hx hy, bTo_get (idx_lt hx hy)]
theorem list_bits {L : List Bool} {W H : Nat} (hL : L.length = W * H) {f : Nat → Bool} (h : ∀ x y, x < W → y < H → f (y * W + x) = bit L W H x y) : bTo f (W * H) = L := by
  apply List.ext_getElem
  · rw [bTo_length, hL]
  · intro i h1 h2
    have hW : 0 < W := by
      rcases Nat.eq_zero_or_pos W with e | e
      · subst e; rw [hL] at h2; simp at h2
      · exact e
    have hi : i < W * H := by omega
    have hx := Nat.mod_lt i hW
    have hy : i / W < H := Nat.div_lt_of_lt_mul hi
    have e : i / W * W + i % W = i := by rw [Nat.mul_comm]; exact Nat.div_add_mod i W
    have := h (i % W) (i / W) hx hy
    rw [e, bit_in hx hy, e] at this
    simp only [bTo, List.getElem_map, List.getElem_range]
    rw [this]
    simp [List.getD_eq_getElem?_getD, h2]

/-- Rows that were told of bits are a picture with these bits. -/
theorem told_row {L : List Bool} {W H y : Nat} (hy : y < H) : (rowsTo L W H)[y]'(by rw [rowsTo_length]; exact hy) = rowS L W y := by simp [rowsTo]
theorem rowS_size (L : List Bool) (W y : Nat) : (rowS L W y).size = W := by simp [rowS, ByteArray.size, rowB_length]
theorem told_w {L : List Bool} {W H : Nat} (hH : 0 < H) : picW (rowsTo L W H) = W := by
  rw [← picW_head (by rw [rowsTo_length]; exact hH), told_row hH, rowS_size]
theorem rowS_at {L : List Bool} {W y x : Nat} (hx : x < W) : (rowS L W y).data.toList.getD x 0 = if L.getD (y * W + x) false then 35 else 46 := by
  simp [rowS, rowB, List.getD_eq_getElem?_getD, hx]
theorem told_ok {L : List Bool} {W H : Nat} (hW0 : 0 < W) (hW : W ≤ 16) (hH0 : 0 < H) (hH : H ≤ 16) : picOk (rowsTo L W H) = true := by
  refine picOk_yes ?_ (fun y hy => ?_)
  · simp only [sizesOk, told_w hH0, rowsTo_length, Bool.and_eq_true, inB_iff]; omega
  · rw [told_w hH0]
    rw [rowsTo_length] at hy
    rw [told_row hy]
    refine row_yes (rowS_size _ _ _) (fun j hj => ?_)
    rw [rowS_size] at hj
    have h1 := rowS_at (L := L) (y := y) hj
    rw [bytes_at _ _ (by rw [rowS_size]; exact hj)] at h1
    rw [h1]
    split <;> simp
theorem told_bits {L : List Bool} {W H : Nat} (hH0 : 0 < H) (hL : L.length = W * H) : picBits (rowsTo L W H) = L := by
  have e : picBits (rowsTo L W H) = bTo (pix (rowsTo L W H) W) (W * H) := by
    rw [picBits, told_w hH0, rowsTo_length]; rfl
  rw [e]
  refine list_bits hL (fun x y hx hy => ?_)
  rw [pix_at (rows := rowsTo L W H) (by rw [rowsTo_length]; exact hy) hx, told_row hy, rowS_at hx, bit_in hx hy]
  cases L.getD (y * W + x) false <;> rfl
end Go.Proofs.Ytkamkjbllmgifaa

namespace Go.Proofs.Ytkamkjbllmgifaa
open Go.RowKit

/-- What is reached, as a list of all pixels. -/
def rO (W : Nat) (f : Int × Int → Option Nat) (i : Nat) : Bool := (f (((i % W : Nat) : Int), ((i / W : Nat) : Int))).isSome
theorem rO_at {W : Nat} (f : Int × Int → Option Nat) {x y : Nat} (hx : x < W) : rO W f (y * W + x) = (f ((x : Int), (y : Int))).isSome := by
  rw [rO, plM hx, plD hx]
theorem bTo_put {W N : Nat} (f : Int × Int → Option Nat) {x y : Nat} (hx : x < W) (d : Nat) : (bTo (rO W f) N).set (y * W + x) true = bTo (rO W fun q => if q = ((x : Int), (y : Int)) then some d else f q) N := by
  apply List.ext_getElem
  · simp [bTo]
  · intro i h1 h2
    rw [List.getElem_set]
    simp only [bTo, List.getElem_map, List.getElem_range]
    split
    · rename_i e
      subst e
      rw [rO_at _ hx]; simp
    · rename_i e
      rw [rO, rO, if_neg]
      intro h
      rw [Prod.mk.injEq] at h
      have hW : 0 < W := by omega
      have := (pl_eq (W := W) i hW).1
      have h1 : i % W = x := by have := h.1; omega
      have h2 : i / W = y := by have := h.2; omega
      rw [h1, h2] at this
      exact e this.symm
section
variable {w wr w' : World} {W N gq cq : Nat} {st : BS (Int × Int)}
end
theorem SpAt.apart {w : World} {g : Nat} {L : List (Int × Int)} (h : SpAt w g L) {p : Addr} (hp : p.block ≠ g) (u : Value) : SpAt (w.setCell p u) g L := by
  obtain ⟨b, o, pth⟩ := p
  exact ⟨by have := h.1; simpa [World.setCell] using this, fun i hi => ⟨(World.cell?_setCell_other w _ _ _ (fun e => hp (by injection e))).trans (h.2 i hi).1, (World.cell?_setCell_other w _ _ _ (fun e => hp (by injection e))).trans (h.2 i hi).2⟩⟩
/-- What the reference's search asks of steps. -/
structure StT (eight : Bool) (stl : List (Int × Int)) : Prop where
  len : stl.length ≤ 8
  near : ∀ d ∈ stl, (-1 ≤ d.1 ∧ d.1 ≤ 1) ∧ -1 ≤ d.2 ∧ d.2 ≤ 1
  call : ∀ V : World, Calls Try.prog 113 #[.bool eight] V fun e w' => ∃ g c, e = .returned (.slice (some ⟨g, 0, none⟩) stl.length c) ∧ V.heap.size ≤ g ∧ SpAt w' g stl ∧ Below V.heap.size V w'
def nbD (stl : List (Int × Int)) (p : Int × Int) : List (Int × Int) := stl.map fun d => (p.1 + d.1, p.2 + d.2)
theorem stT_four : StT false stepL where
  len := by decide
  near := by decide
  call V := (steps_any V).mono fun _ _ ⟨h1, h2, h3⟩ => ⟨_, _, h1, Nat.le_refl _, h2, h3⟩
theorem nbD_four : nbD stepL = nbF := by
  funext p
  simp [nbD, stepL, nbF, arL, Int.sub_eq_add_neg]

end Go.Proofs.Ytkamkjbllmgifaa

namespace Go.Proofs.Ytkamkjbllmgifaa
open Go.RowKit

theorem bTo_get' {b : Nat → Bool} {n i : Nat} (h : i < n) : (bTo b n).getD i false = b i := by simp [bTo, List.getD_eq_getElem?_getD, h]
/-- The pixels that are reached. -/
def rchL (stl : List (Int × Int)) (L : List Bool) (W H : Nat) (a : Int × Int) : List Bool := bTo (rO W (rchF (nbD stl) (okI L W H) (W * H) a)) (W * H)
/-- Labels as a list of all pixels. -/
def labO (W : Nat) (f : Int × Int → Nat) (i : Nat) : Int := (f (((i % W : Nat) : Int), ((i / W : Nat) : Int)) : Int)
theorem labO_at {W : Nat} (f : Int × Int → Nat) {x y : Nat} (hx : x < W) : labO W f (y * W + x) = (f ((x : Int), (y : Int)) : Int) := by
  rw [labO, plM hx, plD hx]
/-- The labels behind the first m pixels of a part. -/
def labM (O : Nat → Int) (LB : List Bool) (c : Nat) (m i : Nat) : Int := if i < m && LB.getD i false then (c : Int) else O i
theorem labM_zero (O : Nat → Int) (LB : List Bool) (c : Nat) : labM O LB c 0 = O := by funext i; simp [labM]
theorem labM_yes {O : Nat → Int} {LB : List Bool} {c m : Nat} (h : LB.getD m false = true) : labM O LB c (m + 1) = setF (labM O LB c m) m (c : Int) := by
  funext i
  by_cases e : i = m
  · subst e; rw [setF_same]; unfold labM; rw [h]; simp
  · rw [setF_ne e]
    unfold labM
    have : (decide (i < m + 1)) = decide (i < m) := by rw [decide_eq_decide]; omega
    rw [this]
theorem labM_no {O : Nat → Int} {LB : List Bool} {c m : Nat} (h : LB.getD m false = false) : labM O LB c (m + 1) = labM O LB c m := by
  funext i
  by_cases e : i = m
  · subst e; unfold labM; rw [h]; simp
  · unfold labM
    have : (decide (i < m + 1)) = decide (i < m) := by rw [decide_eq_decide]; omega
    rw [this]

end Go.Proofs.Ytkamkjbllmgifaa
