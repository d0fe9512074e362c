/- The reference's search from a place over black pixels. The labels of components: the reference's. -/
import Derived.Test.YtdhajndmebnknaaGreatLab
import Derived.Test.YtdhajndmebnknaaGreatTldP
import Derived.Test.YtdhajndmebnknaaGreatPasW
namespace Go.Proofs.YtdhajndmebnknaaGreat
open Go.RowKit

/-- What is reached, as a list of all pixels. -/
def rO (W : Nat) (f : Int × Int → Option Nat) (i : Nat) : Bool := (f (((i % W : Nat) : Int), ((i / W : Nat) : Int))).isSome
theorem rO_at {W : Nat} (f : Int × Int → Option Nat) {x y : Nat} (hx : x < W) : rO W f (y * W + x) = (f ((x : Int), (y : Int))).isSome := by
  rw [rO, plM hx, plD hx]
theorem bTo_put {W N : Nat} (f : Int × Int → Option Nat) {x y : Nat} (hx : x < W) (d : Nat) : (bTo (rO W f) N).set (y * W + x) true = bTo (rO W fun q => if q = ((x : Int), (y : Int)) then some d else f q) N := by
  apply List.ext_getElem
  · simp [bTo]
  · intro i h1 h2
    rw [List.getElem_set]
    simp only [bTo, List.getElem_map, List.getElem_range]
    split
    · rename_i e
      subst e
      rw [rO_at _ hx]; simp
    · rename_i e
      rw [rO, rO, if_neg]
      intro h
      rw [Prod.mk.injEq] at h
      have hW : 0 < W := by omega
      have := (pl_eq (W := W) i hW).1
      have h1 : i % W = x := by have := h.1; omega
      have h2 : i / W = y := by have := h.2; omega
      rw [h1, h2] at this
      exact e this.symm
/-- The search's memory: the result's cell, the list, the queue. -/
structure RsI (w : World) (W N : Nat) (st : BS (Int × Int)) (gq cq : Nat) (wr : World) : Prop where
  res : Blk wr w.heap.size 26 #[.slice none 0 0]
  bits : Blk wr (w.heap.size + 1) 4 (boolC (bTo (rO W st.f) N))
  que : wr.ownsRow (w.heap.size + 2) 38 2 (.slice (some ⟨gq, 0, none⟩) st.Q.length cq) st.Q.length (spL st.Q)
  ext : Below w.heap.size w wr
section
variable {w wr w' : World} {W N gq cq : Nat} {st : BS (Int × Int)}
theorem RsI.step (h : RsI w W N st gq cq wr) (hb : Below wr.heap.size wr w') : RsI w W N st gq cq w' :=
  ⟨h.res.under hb h.res.lt, h.bits.under hb h.bits.lt, own_ext hb h.que, Ext.then_ h.ext hb⟩
theorem RsI.cell (h : RsI w W N st gq cq wr) {x y : Nat} (hx : x < W) (hp : y * W + x < N) : wr.cell? ⟨w.heap.size + 1, y * W + x, none⟩ = some (.bool (st.f ((x : Int), (y : Int))).isSome) := by
  rw [h.bits.cell, boolC_get _ _ (by rw [bTo_length]; exact hp)]
  simp only [bTo, List.getElem_map, List.getElem_range]
  rw [rO_at _ hx]
theorem RsI.head (h : RsI w W N st gq cq wr) {i : Nat} {x y : Int} (hi : st.Q[i]? = some (x, y)) : wr.cell? ⟨gq, i * 2, none⟩ = some (.int .i64 x) ∧ wr.cell? ⟨gq, i * 2 + 1, none⟩ = some (.int .i64 y) := by
  obtain ⟨hl, e⟩ := List.getElem?_eq_some_iff.1 hi
  obtain ⟨h1, h2⟩ := (own_spots h.que rfl).2 i hl
  rw [e] at h1 h2
  exact ⟨h1, h2⟩
theorem RsI.push (h : RsI w W N st gq cq wr) {x y d gq' cq' : Nat} {V V' : World} {ob : Obj} (hx : x < W) (hV : V = wr.setCell ⟨w.heap.size + 1, y * W + x, none⟩ (.bool true))
    (hq : V'.ownsRow (w.heap.size + 2) 38 2 (.slice (some ⟨gq', 0, none⟩) (st.Q.length + 1) cq') (st.Q.length + 1) (spL st.Q ++ [.int .i64 (x : Int), .int .i64 (y : Int)])) (hg : (V.alloc ob).grownBy V' (some gq)) :
    RsI w W N ⟨st.Q ++ [((x : Int), (y : Int))], fun q => if q = ((x : Int), (y : Int)) then some d else st.f q⟩ gq' cq' V' := by
  subst hV
  have hB := (h.que.lt gq rfl).1
  have hlt := h.bits.lt
  have hz : (wr.setCell ⟨w.heap.size + 1, y * W + x, none⟩ (.bool true)).heap.size = wr.heap.size := by simp [World.setCell]
  refine ⟨?_, ?_, ?_, ?_⟩
  · exact ((h.res.apart (p := ⟨w.heap.size + 1, y * W + x, none⟩) (by simp) _).more ob).by_grown hg (by simp; omega)
  · have := h.bits.store (y * W + x) (.bool true)
    rw [boolC_set, bTo_put _ hx d] at this
    exact (this.more ob).by_grown hg (by simp; omega)
  · simp only [List.length_append, List.length_singleton]
    rw [spL_append]
    exact hq
  · exact ((h.ext.setCell (p := ⟨w.heap.size + 1, y * W + x, none⟩) (Nat.le_succ _) _).alloc (by rw [hz]; have := h.ext.size; exact this) ob).grown hg (by simp only [hz, World.size_alloc]; have := h.ext.size; omega) (fun z hz => by cases hz; omega)
end
theorem SpAt.apart {w : World} {g : Nat} {L : List (Int × Int)} (h : SpAt w g L) {p : Addr} (hp : p.block ≠ g) (u : Value) : SpAt (w.setCell p u) g L := by
  obtain ⟨b, o, pth⟩ := p
  exact ⟨by have := h.1; simpa [World.setCell] using this, fun i hi => ⟨(World.cell?_setCell_other w _ _ _ (fun e => hp (by injection e))).trans (h.2 i hi).1, (World.cell?_setCell_other w _ _ _ (fun e => hp (by injection e))).trans (h.2 i hi).2⟩⟩
def nbD (stl : List (Int × Int)) (p : Int × Int) : List (Int × Int) := stl.map fun d => (p.1 + d.1, p.2 + d.2)
theorem nbD_four : nbD stepL = nbF := by
  funext p
  simp [nbD, stepL, nbF, arL, Int.sub_eq_add_neg]

end Go.Proofs.YtdhajndmebnknaaGreat

namespace Go.Proofs.YtdhajndmebnknaaGreat
open Go.RowKit

theorem bTo_get' {b : Nat → Bool} {n i : Nat} (h : i < n) : (bTo b n).getD i false = b i := by simp [bTo, List.getD_eq_getElem?_getD, h]
/-- The pixels that are reached. -/
def rchL (stl : List (Int × Int)) (L : List Bool) (W H : Nat) (a : Int × Int) : List Bool := bTo (rO W (rchF (nbD stl) (okI L W H) (W * H) a)) (W * H)
/-- Labels as a list of all pixels. -/
def labO (W : Nat) (f : Int × Int → Nat) (i : Nat) : Int := (f (((i % W : Nat) : Int), ((i / W : Nat) : Int)) : Int)
theorem labO_at {W : Nat} (f : Int × Int → Nat) {x y : Nat} (hx : x < W) : labO W f (y * W + x) = (f ((x : Int), (y : Int)) : Int) := by
  rw [labO, plM hx, plD hx]
/-- The labels behind the first m pixels of a part. -/
def labM (O : Nat → Int) (LB : List Bool) (c : Nat) (m i : Nat) : Int := if i < m && LB.getD i false then (c : Int) else O i
theorem labM_zero (O : Nat → Int) (LB : List Bool) (c : Nat) : labM O LB c 0 = O := by funext i; simp [labM]
theorem labM_yes {O : Nat → Int} {LB : List Bool} {c m : Nat} (h : LB.getD m false = true) : labM O LB c (m + 1) = setF (labM O LB c m) m (c : Int) := by
  funext i
  by_cases e : i = m
  · subst e; rw [setF_same]; unfold labM; rw [h]; simp
  · rw [setF_ne e]
    unfold labM
    have : (decide (i < m + 1)) = decide (i < m) := by rw [decide_eq_decide]; omega
    rw [this]
theorem labM_no {O : Nat → Int} {LB : List Bool} {c m : Nat} (h : LB.getD m false = false) : labM O LB c (m + 1) = labM O LB c m := by
  funext i
  by_cases e : i = m
  · subst e; unfold labM; rw [h]; simp
  · unfold labM
    have : (decide (i < m + 1)) = decide (i < m) := by rw [decide_eq_decide]; omega
    rw [this]

end Go.Proofs.YtdhajndmebnknaaGreat
