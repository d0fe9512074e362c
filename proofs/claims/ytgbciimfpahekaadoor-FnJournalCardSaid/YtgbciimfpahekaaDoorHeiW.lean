/- The heights of ways: what is held while they are found. The least heights of ways from a pixel: the program's. -/
import Derived.Test.YtgbciimfpahekaaDoorRem
namespace Go.Proofs.YtgbciimfpahekaaDoor
open Go.RowKit

/-- The number at a place. -/
def gF (rows : List (List Int)) (W : Nat) (i : Nat) : Int := (rows.getD (i / W) []).getD (i % W) 0
theorem gF_at {rows : List (List Int)} {W x y : Nat} (hx : x < W) (hy : y < rows.length) (hx2 : x < rows[y].length) : gF rows W (y * W + x) = rows[y][x] := by
  rw [gF, plD hx, plM hx]
  simp [List.getD_eq_getElem?_getD, hy, hx2]
theorem gF_bd {rows : List (List Int)} {W : Nat} (hok : greyOk rows = true) (hW : tabW rows = W) : ∀ i, i < W * rows.length → 0 ≤ gF rows W i ∧ gF rows W i ≤ 99 := by
  intro i hi
  obtain ⟨s1, s2, s3, s4⟩ := tab_sizes hok
  obtain ⟨e, hm⟩ := pl_eq (W := W) i (by omega)
  have hr := pl_row hi
  have hl := tab_row hok (i / W) hr
  have := tab_num hok (i / W) (i % W) hr (by omega)
  rw [e, gF_at hm hr (by omega)]
  exact this

theorem SpAt.put {w : World} {g : Nat} {L : List (Int × Int)} (h : SpAt w g L) {p : Addr} (hp : g ≠ p.block) (u : Value) : SpAt (w.setCell p u) g L := by
  refine ⟨by simpa [World.setCell] using h.1, fun i hi => ?_⟩
  have hc : ∀ j, (w.setCell p u).cell? ⟨g, j, none⟩ = w.cell? ⟨g, j, none⟩ := fun j => World.cell?_setCell_other w _ _ _ (fun e => hp (by rw [e]))
  exact ⟨(hc _).trans (h.2 i hi).1, (hc _).trans (h.2 i hi).2⟩
theorem MatRd.same {w : World} {A : Option Addr} {r1 r2 : List (List Int)} (h1 : MatRd w A r1) (h2 : MatRd w A r2) {y x : Nat} (hy1 : y < r1.length) (hx1 : x < r1[y].length) (hy2 : y < r2.length) (hx2 : x < r2[y].length) : r1[y][x] = r2[y][x] := by
  obtain ⟨g, gr, cy, rfl, _, a1, _, a2⟩ := h1.num hy1 hx1
  obtain ⟨g', gr', cy', e, _, b1, _, b2⟩ := h2.num hy2 hx2
  simp only [Option.some.injEq, Addr.mk.injEq, and_true] at e
  subst e
  rw [a1] at b1
  simp only [Option.some.injEq, Value.slice.injEq, Addr.mk.injEq, and_true] at b1
  obtain ⟨rfl, _⟩ := b1
  rw [a2] at b2
  simpa using b2

/-- What is held: the box of the picture that is made, its memory between lo and po, the rest as it was. -/
structure HeiInv (w0 : World) (lo po : Nat) (A : Option Addr) (c : Nat) (vs : List Value) (W H : Nat) (O : Nat → Int) (wr : World) : Prop where
  box : Blk wr po 83 #[.slice A H c]
  mat : MatAt wr lo po A c vs (gO O W H)
  ext : Below lo w0 wr
section
variable {w0 : World} {lo po : Nat} {A : Option Addr} {c : Nat} {vs : List Value} {W H : Nat} {O : Nat → Int} {wr : World}
theorem HeiInv.step (h : HeiInv w0 lo po A c vs W H O wr) {w' : World} (hb : Below wr.heap.size wr w') (hlo : lo ≤ po) : HeiInv w0 lo po A c vs W H O w' :=
  ⟨h.box.under hb h.box.lt, h.mat.ext hb, h.ext.trans (hb.mono (by have := h.box.lt; omega))⟩
theorem HeiInv.grey (h : HeiInv w0 lo po A c vs W H O wr) : GreyAt wr po A c (gO O W H) :=
  ⟨h.box.lt, by rw [gO_length]; have := h.box.cell 0; simpa using this, h.mat.rd⟩
theorem HeiInv.put (h : HeiInv w0 lo po A c vs W H O wr) {x y : Nat} (hx : x < W) (hy : y < H) :
    ∃ g gr cy, A = some ⟨g, 0, none⟩ ∧ g < wr.heap.size ∧ wr.cell? ⟨g, y, none⟩ = some (.slice (some ⟨gr, 0, none⟩) W cy) ∧ lo ≤ gr ∧ gr < po ∧ gr < wr.heap.size ∧ wr.frozen? ⟨gr, x, none⟩ = false ∧ wr.cell? ⟨gr, x, none⟩ = some (.int .i64 (O (y * W + x))) ∧
      ∀ v, HeiInv w0 lo po A c vs W H (setF O (y * W + x) v) (wr.setCell ⟨gr, x, none⟩ (.int .i64 v)) := by
  have hy' : y < (gO O W H).length := by rw [gO_length]; exact hy
  have hx' : x < (gO O W H)[y].length := by rw [gO_w]; exact hx
  obtain ⟨g, gr, cy, a1, a2, a3, a4, a5, a6, a7, a8, a9⟩ := h.mat.put hy' hx'
  rw [gO_w] at a3
  rw [gO_get] at a8
  refine ⟨g, gr, cy, a1, a2, a3, a4, a5, a6, a7, a8, fun v => ⟨h.box.apart (p := ⟨gr, x, none⟩) (by show po ≠ gr; omega) _, ?_, h.ext.setCell (p := ⟨gr, x, none⟩) a4 _⟩⟩
  have := a9 v
  rwa [gO_set O W H x y v hx hy] at this
/-- A number stored, after calls that make memory. -/
theorem HeiInv.putW (h : HeiInv w0 lo po A c vs W H O wr) {x y : Nat} (hx : x < W) (hy : y < H) (hlp : lo ≤ po) :
    ∃ g gr cy, A = some ⟨g, 0, none⟩ ∧ g < wr.heap.size ∧ lo ≤ gr ∧ gr < po ∧ gr < wr.heap.size ∧ ∀ w', Below wr.heap.size wr w' →
      w'.cell? ⟨g, y, none⟩ = some (.slice (some ⟨gr, 0, none⟩) W cy) ∧ w'.frozen? ⟨gr, x, none⟩ = false ∧ w'.cell? ⟨gr, x, none⟩ = some (.int .i64 (O (y * W + x))) ∧
      ∀ v, HeiInv w0 lo po A c vs W H (setF O (y * W + x) v) (w'.setCell ⟨gr, x, none⟩ (.int .i64 v)) := by
  obtain ⟨g, gr, cy, rfl, a2, a3, a4, a5, a6, _, _, _⟩ := h.put hx hy
  refine ⟨g, gr, cy, rfl, a2, a4, a5, a6, fun w' hb => ?_⟩
  obtain ⟨g', gr', cy', e, b2, b3, b4, b5, b6, b7, b8, b9⟩ := (h.step hb hlp).put hx hy
  simp only [Option.some.injEq, Addr.mk.injEq, and_true] at e
  subst e
  have h3 := (hb.cell (p := ⟨g, y, none⟩) a2).trans a3
  have h4 := h3
  rw [b3] at h4
  simp only [Option.some.injEq, Value.slice.injEq, Addr.mk.injEq, and_true] at h4
  obtain ⟨rfl, _, rfl⟩ := h4
  exact ⟨h3, b7, b8, b9⟩
theorem HeiInv.same {P : Nat → Int} (h : HeiInv w0 lo po A c vs W H O wr) (k : HeiInv w0 lo po A c vs W H P wr) : ∀ i, i < W * H → O i = P i := by
  intro i hi
  have hW : 0 < W := by
    by_cases e : W = 0
    · subst e; omega
    · omega
  obtain ⟨e, hm⟩ := pl_eq (W := W) i hW
  have hr := pl_row hi
  have e1 : i / W < (gO O W H).length := by rw [gO_length]; exact hr
  have e2 : i / W < (gO P W H).length := by rw [gO_length]; exact hr
  have := h.mat.rd.same k.mat.rd (y := i / W) (x := i % W) e1 (by rw [gO_w]; exact hm) e2 (by rw [gO_w]; exact hm)
  rw [gO_get, gO_get, ← e] at this
  exact this
end
theorem sumF_congr {O P : Nat → Int} : ∀ n, (∀ i, i < n → O i = P i) → sumF O n = sumF P n := by
  intro n
  induction n with
  | zero => intro _; rfl
  | succ n ih => intro h; rw [sumF, sumF, ih (fun i hi => h i (by omega)), h n (by omega)]
/-- The sum of the heights that a world holds. -/
noncomputable def measH (w0 : World) (lo po : Nat) (A : Option Addr) (c : Nat) (vs : List Value) (W H : Nat) (wr : World) : Nat :=
  open Classical in if h : ∃ O, HeiInv w0 lo po A c vs W H O wr then sumF h.choose (W * H) else 0
theorem measH_of {w0 : World} {lo po : Nat} {A : Option Addr} {c : Nat} {vs : List Value} {W H : Nat} {O : Nat → Int} {wr : World} (h : HeiInv w0 lo po A c vs W H O wr) : measH w0 lo po A c vs W H wr = sumF O (W * H) := by
  have hx : ∃ O, HeiInv w0 lo po A c vs W H O wr := ⟨O, h⟩
  rw [measH, dif_pos hx]
  exact sumF_congr _ (hx.choose_spec.same h)
end Go.Proofs.YtgbciimfpahekaaDoor

namespace Go.Proofs.YtgbciimfpahekaaDoor
open Go.RowKit

def bit1 : Value → Nat
  | .bool true => 1
  | _ => 0
end Go.Proofs.YtgbciimfpahekaaDoor
