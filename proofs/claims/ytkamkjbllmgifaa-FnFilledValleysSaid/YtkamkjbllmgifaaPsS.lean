/- The reference's list of a grey picture's numbers; places; least heights between places and to the edge. The reference's places of spots; least heights between places and to the edge. The reference's least height between two places. -/
import Derived.Test.YtkamkjbllmgifaaPasW
import Derived.Test.YtkamkjbllmgifaaSpi
import Derived.Deep.RegionLaw
namespace Go.Proofs.Ytkamkjbllmgifaa
open Go.RowKit

theorem flat_len {rows : List (List Int)} {W : Nat} (hr : ∀ y (h : y < rows.length), rows[y].length = W) : ∀ k, k ≤ rows.length → ((rows.take k).flatten).length = k * W := by
  intro k
  induction k with
  | zero => intro _; simp
  | succ k ih =>
    intro h
    rw [List.take_succ_eq_append_getElem (by omega), List.flatten_append, List.length_append, ih (by omega), Nat.succ_mul]
    simp [hr k (by omega)]
theorem flat_succ {rows : List (List Int)} {k : Nat} (h : k < rows.length) : (rows.take (k + 1)).flatten = (rows.take k).flatten ++ rows[k] := by
  rw [List.take_succ_eq_append_getElem h, List.flatten_append]; simp
theorem flat_get {rows : List (List Int)} {W : Nat} (hr : ∀ y (h : y < rows.length), rows[y].length = W) {x y : Nat} (hy : y < rows.length) (hx : x < W) : ∀ k, y < k → k ≤ rows.length → ((rows.take k).flatten).getD (y * W + x) 0 = gF rows W (y * W + x) := by
  intro k
  induction k with
  | zero => intro h; omega
  | succ k ih =>
    intro h1 h2
    have hl := flat_len hr k (by omega)
    rw [flat_succ (by omega), List.getD_eq_getElem?_getD]
    by_cases e : y = k
    · subst e
      rw [List.getElem?_append_right (by omega), hl, Nat.add_sub_cancel_left, gF_at hx hy (by rw [hr y hy]; exact hx), List.getElem?_eq_getElem (by rw [hr y hy]; exact hx)]
      rfl
    · have : y * W + x < k * W := by
        have := Nat.mul_le_mul_right W (show y + 1 ≤ k by omega)
        rw [Nat.succ_mul] at this
        omega
      rw [List.getElem?_append_left (by omega), ← List.getD_eq_getElem?_getD]
      exact ih (by omega) (by omega)

set_option maxRecDepth 100000 in
set_option maxHeartbeats 1000000 in
theorem list_any (A : Option Addr) (c : Nat) (rows : List (List Int)) (W H n : Nat) (w : World) (h : MatRd w A rows) (hH0 : rows.length = H) (hr : ∀ y (h : y < rows.length), rows[y].length = W) (hW1 : 0 < W) (hW : W ≤ 16) (hH : H ≤ 16) (hn : H * W = n) :
    Calls Try.prog 47 #[.slice A H c] w fun e w' => ∃ A' c', e = .returned (.slice A' n c') ∧ w'.ownsRow w.heap.size 2 1 (.slice A' n c') n (ints rows.flatten) ∧ Below w.heap.size w w' := by
  have hrow0 := World.ownsRow_lit (e := 2) (size := 1) w #[] 0 (Nat.le_refl _) (by decide) rfl
  have B0 : Below w.heap.size w (w.alloc (.cells #[] 2)) := Ext.more (Ext.refl _) _
  have RD := Lib.hid (fun V (hb : Below w.heap.size w V) => h.ext hb)
  have FS := Lib.hid (fun k (hk : k < rows.length) => flat_succ hk)
  have FE : Hid ((rows.take H).flatten = rows.flatten) := by rw [Hid, ← hH0, List.take_length]
  have HR := Lib.hid hr
  have HL := Lib.hid hH0
  have YB : Hid (∀ y, y ≤ H → y * W ≤ 256) := fun y hy => Nat.le_trans (Nat.mul_le_mul (Nat.le_trans hy hH) hW) (by decide)
  obtain ⟨i0, hi, hz0, hz1, hz2⟩ := info_parts intT.info
  rw [← hn]
  clear h hr hH0 hn
  go_enter Try.func47, Try.ntmps47
  go_wp2_with fail
  generalize w.alloc (.cells #[] 2) = w0 at *
  go_loopw [3, 4] (fun v i wr => ∃ y gb cb : Nat, y ≤ H ∧ i = .int .i64 y ∧ v = .slice (some ⟨gb, 0, none⟩) (y * W) cb ∧ wr.ownsRow w.heap.size 2 1 (.slice (some ⟨gb, 0, none⟩) (y * W) cb) (y * W) (ints (rows.take y).flatten) ∧ Below w.heap.size w wr) (fun _ i _ => H - (intOf i).toNat)
  case atStart => exact ⟨0, w.heap.size, 0, Nat.zero_le _, rfl, by rw [Nat.zero_mul], by rw [Nat.zero_mul]; simpa [ints] using hrow0, B0⟩
  case round =>
    obtain ⟨y, gb, cb, hy, rfl, rfl, hown, hb⟩ := hrel
    clear hrow0 B0
    by_cases hlt : y < H
    · have hyl : y < rows.length := by rw [HL.out]; exact hlt
      obtain ⟨g, rfl, hg, hc⟩ := RD.out wr hb (by omega)
      obtain ⟨Ay, cy, k1, k2⟩ := hc y hyl
      have hlen := HR.out y hyl
      obtain ⟨gr, rfl, hgr, hcr⟩ := k2 (by simp [ints]; omega)
      have FY := Lib.hid (FS.out y hyl)
      have yb := YB.out (y + 1) (by omega)
      have hsz := hb.size
      have ys : (y + 1) * W = y * W + W := Nat.succ_mul _ _
      clear hc k2
      generalize rows[y] = ry at *
      have i0' : (0 : Int) ≤ (y : Int) := by omega
      have i1 : (y : Int) < (H : Int) := by omega
      rw [hlen] at k1
      have hnews : ∀ j u, (ints ry)[j]? = some u → wr.cell? ((⟨gr, 0, none⟩ : Addr).add j) = some u := by
        intro j u hu
        have hj : j < (ints ry).length := by
          by_cases e : j < (ints ry).length
          · exact e
          · rw [List.getElem?_eq_none (by omega)] at hu; cases hu
        have hadd : (⟨gr, 0, none⟩ : Addr).add j = ⟨gr, j, none⟩ := by unfold Addr.add; split <;> simp_all
        rw [hadd, hcr j hj, ← hu, List.getElem?_eq_getElem hj]
      have hlr : (ints ry).length = W * 1 := by simp [ints, hlen]
      have h1c : ∀ u ∈ ints ry, u.oneCell' = true := by
        intro u hu
        simp only [ints, List.mem_map] at hu
        obtain ⟨a, _, rfl⟩ := hu
        rfl
      rw [ys] at yb
      have HY := Lib.hid ys
      clear ys hcr
      generalize y * W = yW at *
      generalize (rows.take y).flatten = fl at *
      go_wp2_with (at_builtin; refine wpList_append_lies _ (by rfl) _ _ 34 (by rfl) w.heap.size 2 i0 (.int .i64 0) 1 8 Try.underlying34 hi hz0 hz1 hz2 rfl (by decide) (.slice (some ⟨gb, 0, none⟩) yW cb) yW (ints fl) (by rfl) hown ⟨gr, 0, none⟩ W cy (ints ry) (by rfl) hlr hnews h1c hW1 (by unfold maxLen; omega) (by omega) hsz wr.heap.size rfl ?_; intro g3 cap3 w3 hown3 hgrow3 hat3 hlt3)
      have hown4 : w3.ownsRow w.heap.size 2 1 (.slice (some ⟨g3, 0, none⟩) (yW + W) cap3) (yW + W) (ints (rows.take (y + 1)).flatten) := by
        rw [FY.out]; simpa [ints] using hown3
      have B3 : Below w.heap.size w w3 := hb.grown hgrow3 hsz (fun z hz => (hown.lt z hz).1)
      clear hown3 hgrow3 hat3 hnews h1c hlr
      go_wp2_with fail
      go_roundw
      case rel => exact ⟨y + 1, g3, cap3, by omega, by go_num, by rw [HY.out], by rw [HY.out]; exact hown4, B3⟩
      case measure => simp [intOf]; omega
    · obtain rfl : H = y := by omega
      rw [FE.out] at hown
      go_wp2_with fail
      go_ret
      exact ⟨_, _, rfl, hown, hb⟩
end Go.Proofs.Ytkamkjbllmgifaa

namespace Go.Proofs.Ytkamkjbllmgifaa
open Go.RowKit

set_option maxHeartbeats 400000 in
theorem widthG_any (p : Nat) (A : Option Addr) (c : Nat) (rows : List (List Int)) (w : World) (h : GreyAt w p A c rows) (hn : 0 < rows.length) :
    Calls Try.prog 49 #[.pointer (some ⟨p, 0, none⟩)] w fun e w' => e = .returned (.int .i64 (tabW rows : Int)) ∧ w = w' := by
  have c0 := h.cell
  obtain ⟨g, rfl, hg, hc⟩ := h.rd hn
  obtain ⟨A0, c1, k0, d0⟩ := hc 0 hn
  rw [tabW_head hn] at k0
  generalize tabW rows = W at *
  have i0 : (0 : Int) < (rows.length : Int) := by omega
  clear hc d0 h
  generalize rows.length = n at *
  go_enter Try.func49, Try.ntmps49
  go_wp2_with fail
  go_ret
  exact ⟨rfl, rfl⟩
/-- The place of a spot; 0. -/
def plcO (W H : Nat) (x y : Int) : Int := if inG W H (x, y) then ((plc W (x, y) : Nat) : Int) else 0
end Go.Proofs.Ytkamkjbllmgifaa

namespace Go.Proofs.Ytkamkjbllmgifaa
open Go.RowKit

theorem IsPass.congrF {W n : Nat} {G : Nat → Int} {F F' : Nat → Prop} {O : Nat → Int} (h : IsPass W n G F O) (e : ∀ i, F i ↔ F' i) : IsPass W n G F' O := by
  have : F = F' := funext fun i => propext (e i)
  rwa [← this]
theorem rdNew (w : World) (t : TypeId) (v : Int) : Rd (w.alloc (.cells #[.int .i64 v] t)) (some ⟨w.heap.size, 0, none⟩) (ints [v]) := by
  intro _
  refine ⟨w.heap.size, rfl, by simp, fun i hi => ?_⟩
  have : i = 0 := by simp [ints] at hi; omega
  subst this
  exact cell_new w _ _ 0
/-- What the callees of the search need of a grey picture. -/
structure GreyN (rows : List (List Int)) (W H n : Nat) : Prop where
  ok : greyOk rows = true
  w : tabW rows = W
  h : rows.length = H
  n : n = W * H
section
variable {rows : List (List Int)} {W H n : Nat}
theorem GreyN.w1 (g : GreyN rows W H n) : 0 < W ∧ W ≤ 16 ∧ 0 < H ∧ H ≤ 16 := by
  obtain ⟨s1, s2, s3, s4⟩ := tab_sizes g.ok
  have := g.w; have := g.h
  omega
theorem GreyN.row (g : GreyN rows W H n) : ∀ y (h : y < rows.length), rows[y].length = W := fun y hy => by rw [tab_row g.ok y hy, g.w]
theorem GreyN.get (g : GreyN rows W H n) : ∀ i, i < n → rows.flatten.getD i 0 = gF rows W i := by
  intro i hi
  obtain ⟨w0, _, _, _⟩ := g.w1
  obtain ⟨e, hm⟩ := pl_eq (W := W) i w0
  have hr : i / W < rows.length := by rw [g.h]; exact pl_row (by rw [← g.n]; exact hi)
  have := flat_get g.row hr hm rows.length hr (Nat.le_refl _)
  rwa [List.take_length, ← e] at this
theorem GreyN.len (g : GreyN rows W H n) : rows.flatten.length = n := by
  have := flat_len g.row rows.length (Nat.le_refl _)
  rw [List.take_length, g.h] at this
  rw [this, g.n, Nat.mul_comm]
theorem GreyN.bd (g : GreyN rows W H n) : ∀ i (h : i < rows.flatten.length), 0 ≤ rows.flatten[i] ∧ rows.flatten[i] ≤ 99 := by
  intro i hi
  have hi' := hi
  rw [g.len] at hi'
  have h1 := g.get i hi'
  rw [List.getD_eq_getElem?_getD, List.getElem?_eq_getElem hi, Option.getD_some] at h1
  rw [h1]
  exact gF_bd g.ok g.w i (by rw [g.h, ← g.n]; exact hi')
end
end Go.Proofs.Ytkamkjbllmgifaa
