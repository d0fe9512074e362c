/- The reference's least height between two places. -/
import Derived.Test.YtajepoopicoodaaPla
import Derived.Deep.RegionLaw
namespace Go.Proofs.Ytajepoopicoodaa
open Go.RowKit

theorem IsPass.congrF {W n : Nat} {G : Nat → Int} {F F' : Nat → Prop} {O : Nat → Int} (h : IsPass W n G F O) (e : ∀ i, F i ↔ F' i) : IsPass W n G F' O := by
  have : F = F' := funext fun i => propext (e i)
  rwa [← this]
theorem rdNew (w : World) (t : TypeId) (v : Int) : Rd (w.alloc (.cells #[.int .i64 v] t)) (some ⟨w.heap.size, 0, none⟩) (ints [v]) := by
  intro _
  refine ⟨w.heap.size, rfl, by simp, fun i hi => ?_⟩
  have : i = 0 := by simp [ints] at hi; omega
  subst this
  exact cell_new w _ _ 0
/-- What the callees of the search need of a grey picture. -/
structure GreyN (rows : List (List Int)) (W H n : Nat) : Prop where
  ok : greyOk rows = true
  w : tabW rows = W
  h : rows.length = H
  n : n = W * H
section
variable {rows : List (List Int)} {W H n : Nat}
theorem GreyN.w1 (g : GreyN rows W H n) : 0 < W ∧ W ≤ 16 ∧ 0 < H ∧ H ≤ 16 := by
  obtain ⟨s1, s2, s3, s4⟩ := tab_sizes g.ok
  have := g.w; have := g.h
  omega
theorem GreyN.row (g : GreyN rows W H n) : ∀ y (h : y < rows.length), rows[y].length = W := fun y hy => by rw [tab_row g.ok y hy, g.w]
theorem GreyN.get (g : GreyN rows W H n) : ∀ i, i < n → rows.flatten.getD i 0 = gF rows W i := by
  intro i hi
  obtain ⟨w0, _, _, _⟩ := g.w1
  obtain ⟨e, hm⟩ := pl_eq (W := W) i w0
  have hr : i / W < rows.length := by rw [g.h]; exact pl_row (by rw [← g.n]; exact hi)
  have := flat_get g.row hr hm rows.length hr (Nat.le_refl _)
  rwa [List.take_length, ← e] at this
theorem GreyN.len (g : GreyN rows W H n) : rows.flatten.length = n := by
  have := flat_len g.row rows.length (Nat.le_refl _)
  rw [List.take_length, g.h] at this
  rw [this, g.n, Nat.mul_comm]
theorem GreyN.bd (g : GreyN rows W H n) : ∀ i (h : i < rows.flatten.length), 0 ≤ rows.flatten[i] ∧ rows.flatten[i] ≤ 99 := by
  intro i hi
  have hi' := hi
  rw [g.len] at hi'
  have h1 := g.get i hi'
  rw [List.getD_eq_getElem?_getD, List.getElem?_eq_getElem hi, Option.getD_some] at h1
  rw [h1]
  exact gF_bd g.ok g.w i (by rw [g.h, ← g.n]; exact hi')
end
set_option maxRecDepth 100000 in
set_option maxHeartbeats 4000000 in
theorem passS_any (p : Nat) (A : Option Addr) (c : Nat) (rows : List (List Int)) (W H n a b : Nat) (w : World) (h : GreyAt w p A c rows) (g : GreyN rows W H n) (ha : a < n) (hb : b < n) :
    Calls Try.prog 62 #[.pointer (some ⟨p, 0, none⟩), .int .i64 a, .int .i64 b] w fun e w' => (∃ O, e = .returned (.int .i64 (O b)) ∧ Hid (IsPass W n (gF rows W) (fun i => i = a) O)) ∧ Below w.heap.size w w' := by
  obtain ⟨x1, x2, x3, x4⟩ := g.w1
  have GG := Lib.hid (fun V (hV : Below w.heap.size w V) => widthG_any p A c rows V (h.ext hV) (by rw [g.h]; exact x3))
  rw [g.w] at GG
  have LG := Lib.hid (fun V (hV : Below w.heap.size w V) => list_any A c rows W H n V (h.rd.ext hV) g.h g.row x1 x2 x4 (by rw [g.n, Nat.mul_comm]))
  have PG := Lib.hid (fun V A1 A2 c1 c2 (r1 : Rd V A1 (ints rows.flatten)) (r2 : Rd V A2 (ints [(a : Int)])) => passes_any W H n 1 A1 A2 c1 c2 rows.flatten [(a : Int)] V x1 x2 x4 g.n g.len rfl (by omega) g.bd (by intro v hv; simp at hv; omega) r1 r2 (gF rows W) g.get)
  have c0 := h.cell
  rw [g.h] at c0
  have hlt := h.lt
  clear h g
  have b0 : (0 : Int) ≤ (b : Int) := by omega
  have b1 : (b : Int) < (n : Int) := by omega
  go_enter Try.func62, Try.ntmps62
  go_wp2_with fail
  go_region_law (first
    | (go_simp; go_at_call 66; refine (GG.out _ (by repeat (first | assumption | exact Ext.refl _ | refine Ext.draw ?_ | refine Ext.more ?_ _ | refine Ext.drawN ?_ _))).mono ?_; rintro e w' ⟨rfl, rfl⟩)
    | (go_simp; go_at_call 64; refine (LG.out _ (by repeat (first | assumption | exact Ext.refl _ | refine Ext.draw ?_ | refine Ext.more ?_ _ | refine Ext.drawN ?_ _))).mono ?_; rintro e w1 ⟨A1, c1, rfl, own1, hb1⟩; have hB1 : Below w.heap.size w w1 := Ext.then_ (by repeat (first | assumption | exact Ext.refl _ | refine Ext.draw ?_ | refine Ext.more ?_ _ | refine Ext.drawN ?_ _)) hb1)
    | (go_simp; go_at_call 65; refine (PG.out _ _ _ _ _ (by first | exact Rd.of_own own1 | exact (Rd.of_own own1).ext (Ext.more (Ext.refl _) _)) (by first | exact rdNew _ _ _ | exact Rd.ext (rdNew w 2 (a : Int)) (Ext.undraw hb1) | exact (rdNew _ _ _).ext hb1)).mono ?_; rintro e w2 ⟨g2, O, rfl, hg2, hO, hP, hb2⟩; have hcb := (hO.cell b).trans (intC_get _ b (by rw [fL_length]; exact hb)); rw [fL_get] at hcb; have hlt2 := hO.lt; have hB2 : Below w.heap.size w w2 := Ext.then_ (by repeat (first | assumption | exact Ext.refl _ | refine Ext.draw ?_ | refine Ext.more ?_ _ | refine Ext.drawN ?_ _)) hb2))
  all_goals
    go_wp2_with fail
    go_ret
    exact ⟨⟨O, rfl, IsPass.congrF hP.out (fun i => by simp; omega)⟩, hB2⟩
end Go.Proofs.Ytajepoopicoodaa
