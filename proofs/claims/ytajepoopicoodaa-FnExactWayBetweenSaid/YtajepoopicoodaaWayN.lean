/- The search over the neighbours inside; places as numbers. Plain. -/
import Derived.Test.YtajepoopicoodaaWayP
import Derived.Test.YtajepoopicoodaaPasW
namespace Go.Proofs.Ytajepoopicoodaa
open Go.RowKit

section
variable {W H : Nat} {G : Nat → Int} {P : Int}
/-- The same over the neighbours inside. -/
def FarN (W H : Nat) (G : Nat → Int) (P : Int) (b : Int × Int) (i : Nat) : Prop :=
  ∃ (x y d : Nat) (T : Nat → BS (Int × Int)), x < W ∧ y < H ∧ (farS W H G P b i).Q[i]? = some ((x : Int), (y : Int)) ∧ d < W * H ∧ T 0 = farS W H G P b i ∧
    (∀ j (hj : j < ((arL x y).filter (inG W H)).length), T (j + 1) = (T j).see (okW W H G P) (d + 1) ((arL x y).filter (inG W H))[j]) ∧
    (∀ j, j ≤ ((arL x y).filter (inG W H)).length → i < (T j).Q.length ∧ (T j).Q.length ≤ W * H ∧ (T j).Q[i]? = some ((x : Int), (y : Int)) ∧ (T j).f ((x : Int), (y : Int)) = some d) ∧
    T ((arL x y).filter (inG W H)).length = farS W H G P b (i + 1) ∧ FInv W H G P b (farS W H G P b (i + 1)) (i + 1)
theorem sees_filter (d : Nat) (s : BS (Int × Int)) (l : List (Int × Int)) : s.sees (okW W H G P) d l = s.sees (okW W H G P) d (l.filter (inG W H)) := by
  induction l generalizing s with
  | nil => rfl
  | cons q r ih =>
    cases h : inG W H q
    · rw [List.filter_cons_of_neg (by simp [h])]
      have : s.see (okW W H G P) d q = s := by rw [BS.see, if_neg]; simp [okW, h]
      rw [← ih]
      unfold BS.sees
      rw [List.foldl_cons, this]
    · rw [List.filter_cons_of_pos h]
      unfold BS.sees at ih ⊢
      rw [List.foldl_cons, List.foldl_cons, ih]
theorem farN_of {b : Int × Int} {i : Nat} (h : FInv W H G P b (farS W H G P b i) i) (hi : i < (farS W H G P b i).Q.length) : FarN W H G P b i := by
  obtain ⟨d, hd, hdl⟩ := h.dist i hi
  have hl := farS_len h
  have hin := okW_in (h.good _ (List.getElem_mem hi))
  obtain ⟨x, hx⟩ : ∃ x : Nat, (farS W H G P b i).Q[i].1 = x := ⟨(farS W H G P b i).Q[i].1.toNat, by rw [inG_iff] at hin; omega⟩
  obtain ⟨y, hy⟩ : ∃ y : Nat, (farS W H G P b i).Q[i].2 = y := ⟨(farS W H G P b i).Q[i].2.toNat, by rw [inG_iff] at hin; omega⟩
  have hq : (farS W H G P b i).Q[i] = ((x : Int), (y : Int)) := Prod.ext hx hy
  rw [inG_iff, hx, hy] at hin
  have enb : nb4 (farS W H G P b i).Q[i] = arL x y := by rw [hq]; rfl
  have S := h.sees hi hd ((arL x y).filter (inG W H)) (fun q hq => by rw [enb]; exact (List.mem_filter.1 hq).1)
  refine ⟨x, y, d, fun j => (farS W H G P b i).sees (okW W H G P) (d + 1) (((arL x y).filter (inG W H)).take j), by omega, by omega, ?_, by omega, rfl, ?_, ?_, ?_, farS_succ h hi⟩
  · rw [← hq]; exact List.getElem?_eq_getElem hi
  · intro j hj
    exact BS.sees_succ (okW W H G P) (d + 1) (farS W H G P b i) ((arL x y).filter (inG W H)) j hj
  · intro j hj
    obtain ⟨s1, s2, s3, s4⟩ := S j hj
    refine ⟨s2, BInv.len s1 (fun _ h => okW_in h), ?_, by rw [← hq]; exact s4⟩
    have e := List.getElem?_eq_getElem s2
    rw [s3.trans hq] at e
    exact e
  · have := BS.after_succ (nb := nb4) (ok := okW W H G P) (s := start1 b) hi hd
    simp only
    rw [List.take_length, ← sees_filter, ← enb]
    exact this.symm
end
/-- How far places are, -1 for those that are not reached. -/
def farO (W : Nat) (f : Int × Int → Option Nat) (i : Nat) : Int :=
  match f (((i % W : Nat) : Int), ((i / W : Nat) : Int)) with
  | none => -1
  | some d => d
theorem farO_at {W : Nat} (f : Int × Int → Option Nat) {x y : Nat} (hx : x < W) : farO W f (y * W + x) = match f ((x : Int), (y : Int)) with | none => -1 | some d => (d : Int) := by
  rw [farO, plM hx, plD hx]
theorem farO_put {W : Nat} (f : Int × Int → Option Nat) {x y : Nat} (hx : x < W) (d : Nat) : farO W (fun q => if q = ((x : Int), (y : Int)) then some d else f q) = setF (farO W f) (y * W + x) (d : Int) := by
  funext i
  by_cases e : i = y * W + x
  · subst e; rw [farO_at _ hx, setF_same, if_pos rfl]
  · rw [setF_ne e, farO, farO]
    have hW : 0 < W := by omega
    have := (pl_eq (W := W) i hW).1
    rw [if_neg]
    intro h
    rw [Prod.mk.injEq] at h
    have h1 : i % W = x := by have := h.1; omega
    have h2 : i / W = y := by have := h.2; omega
    rw [h1, h2] at this
    exact e this
theorem nearI_eq {W H x y : Nat} (hx : x < W) : nearI W H (y * W + x) = ((arL x y).filter (inG W H)).map fun p => ((plc W p : Nat) : Int) := by
  unfold nearI nearTo
  rw [plM hx, plD hx]
  rfl
/-- The search's queue and distances in memory. -/
structure WsI (w7 : World) (W n : Nat) (st : BS (Int × Int)) (gq cq : Nat) (wr : World) : Prop where
  far : Blk wr w7.heap.size 2 (intC (fL (farO W st.f) n))
  que : wr.ownsRow (w7.heap.size + 1) 2 1 (.slice (some ⟨gq, 0, none⟩) st.Q.length cq) st.Q.length (ints (st.Q.map fun q => ((plc W q : Nat) : Int)))
  ext : Below w7.heap.size w7 wr
section
variable {w7 wr w' : World} {W n gq cq : Nat} {st : BS (Int × Int)}
theorem WsI.step (h : WsI w7 W n st gq cq wr) (hb : Below wr.heap.size wr w') : WsI w7 W n st gq cq w' :=
  ⟨h.far.under hb h.far.lt, own_ext hb h.que, Ext.then_ h.ext hb⟩
theorem WsI.cell (h : WsI w7 W n st gq cq wr) {x y : Nat} (hx : x < W) (hp : y * W + x < n) : wr.cell? ⟨w7.heap.size, y * W + x, none⟩ = some (.int .i64 (match st.f ((x : Int), (y : Int)) with | none => -1 | some d => (d : Int))) := by
  rw [h.far.cell, intC_get _ _ (by rw [fL_length]; exact hp), fL_get, farO_at _ hx]
theorem WsI.head (h : WsI w7 W n st gq cq wr) {i x y : Nat} (hi : st.Q[i]? = some ((x : Int), (y : Int))) : wr.cell? ⟨gq, i, none⟩ = some (.int .i64 ((y * W + x : Nat) : Int)) := by
  obtain ⟨hl, e⟩ := List.getElem?_eq_some_iff.1 hi
  rw [h.que.cellAt i (by omega)]
  simp [ints, hi, plc]
theorem WsI.push (h : WsI w7 W n st gq cq wr) {x y d gq' cq' : Nat} {V V' : World} {ob : Obj} (hx : x < W) (hV : V = wr.setCell ⟨w7.heap.size, y * W + x, none⟩ (.int .i64 (d : Int)))
    (hq : V'.ownsRow (w7.heap.size + 1) 2 1 (.slice (some ⟨gq', 0, none⟩) (st.Q.length + 1) cq') (st.Q.length + 1) (ints (st.Q.map fun q => ((plc W q : Nat) : Int)) ++ [.int .i64 ((y * W + x : Nat) : Int)])) (hg : (V.alloc ob).grownBy V' (some gq)) :
    WsI w7 W n ⟨st.Q ++ [((x : Int), (y : Int))], fun q => if q = ((x : Int), (y : Int)) then some d else st.f q⟩ gq' cq' V' := by
  subst hV
  have hB := (h.que.lt gq rfl).1
  have hlt := h.far.lt
  have hz : (wr.setCell ⟨w7.heap.size, y * W + x, none⟩ (.int .i64 (d : Int))).heap.size = wr.heap.size := by simp [World.setCell]
  refine ⟨?_, ?_, ?_⟩
  · rw [farO_put _ hx]
    have := h.far.store (y * W + x) (.int .i64 (d : Int))
    rw [intC_set, fL_set] at this
    exact (this.more ob).by_grown hg (by simp; omega)
  · have e : ints ((st.Q ++ [((x : Int), (y : Int))]).map fun q => ((plc W q : Nat) : Int)) = ints (st.Q.map fun q => ((plc W q : Nat) : Int)) ++ [.int .i64 ((y * W + x : Nat) : Int)] := by simp [ints, plc]
    simp only [List.length_append, List.length_singleton]
    rw [e]
    exact hq
  · exact ((h.ext.setCell (p := ⟨w7.heap.size, y * W + x, none⟩) (Nat.le_refl _) _).alloc (by rw [hz]; have := h.ext.size; exact this) ob).grown hg (by simp only [hz, World.size_alloc]; have := h.ext.size; omega) (fun z hz => by cases hz; omega)
end
end Go.Proofs.Ytajepoopicoodaa
