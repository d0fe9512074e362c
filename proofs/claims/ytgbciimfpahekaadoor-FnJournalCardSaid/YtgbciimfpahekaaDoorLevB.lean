/- The picture of the least heights to the edge: on both sides. A picture of water levels is small. -/
import Derived.Test.YtgbciimfpahekaaDoorPbt
namespace Go.Proofs.YtgbciimfpahekaaDoor
open Go.RowKit

set_option maxRecDepth 100000 in
set_option maxHeartbeats 1000000 in
theorem own_any (ad : Addr) (m c : Nat) (L : List Int) (w : World) (hl : L.length = m) (h0 : 0 < m) (hm : m ≤ 1000) (hlt : ad.block < w.heap.size) (hc : ∀ j u, (ints L)[j]? = some u → w.cell? (ad.add j) = some u) :
    Calls Tryd.prog 70 #[.slice (some ad) m c] w fun e w' => ∃ g' c', e = .returned (.slice (some ⟨g', 0, none⟩) m c') ∧ w'.ownsRow w.heap.size 2 1 (.slice (some ⟨g', 0, none⟩) m c') m (ints L) ∧ Below w.heap.size w w' := by
  have hrow0 := World.ownsRow_lit (e := 2) (size := 1) w #[] 0 (Nat.le_refl _) (by decide) rfl
  have B0 : Below w.heap.size w (w.alloc (.cells #[] 2)) := Ext.more (Ext.refl _) _
  obtain ⟨i0, hi, hz0, hz1, hz2⟩ := info_parts intT.info
  have hnews : ∀ j u, (ints L)[j]? = some u → (w.alloc (.cells #[] 2)).cell? (ad.add j) = some u := fun j u hu => (B0.cell (by rw [Addr.add_block']; exact hlt)).trans (hc j u hu)
  have hlr : (ints L).length = m * 1 := by simp [ints, hl]
  have h1c : ∀ u ∈ ints L, u.oneCell' = true := by
    intro u hu
    simp only [ints, List.mem_map] at hu
    obtain ⟨a, _, rfl⟩ := hu
    rfl
  have hsz : w.heap.size ≤ (w.alloc (.cells #[] 2)).heap.size := B0.size
  clear hc
  go_enter Tryd.func70, Tryd.ntmps70
  go_wp2_with (at_builtin; refine wpList_append_lies _ (by rfl) _ _ 93 (by rfl) w.heap.size 2 i0 (.int .i64 0) 1 8 Tryd.underlying93 hi hz0 hz1 hz2 rfl (by decide) (.slice (some ⟨w.heap.size, 0, none⟩) 0 0) 0 [] (by rfl) hrow0 ad m c (ints L) (by rfl) hlr hnews h1c h0 (by unfold maxLen; omega) (by omega) hsz _ rfl ?_; intro g3 cap3 w3 hown3 hgrow3 hat3 hlt3)
  have hown4 : w3.ownsRow w.heap.size 2 1 (.slice (some ⟨g3, 0, none⟩) m cap3) m (ints L) := by simpa using hown3
  have B3 : Below w.heap.size w w3 := B0.grown hgrow3 hsz (fun z hz => by simp [Value.ownBlock] at hz; omega)
  clear hown3 hgrow3 hat3 hnews h1c hlr hrow0 B0 hsz
  go_ret
  exact ⟨_, _, rfl, hown4, B3⟩

set_option maxRecDepth 100000 in
set_option maxHeartbeats 2000000 in
theorem rowsS_any (W H n g : Nat) (O : Nat → Int) (w : World) (hW1 : 0 < W) (hW : W ≤ 16) (hH : H ≤ 16) (hn : n = W * H) (hB : Blk w g 2 (intC (fL O n))) :
    Calls Tryd.prog 57 #[.int .i64 W, .slice (some ⟨g, 0, none⟩) n n] w fun e w' => ∃ A c vs, e = .returned (.slice A H c) ∧ MatAt w' w.heap.size w'.heap.size A c vs (gO O W H) ∧ Below w.heap.size w w' := by
  have hrow0 := World.ownsRow_lit (e := 93) (size := 1) w #[] 0 (Nat.le_refl _) (by decide) rfl
  have M0 : MatAt (w.alloc (.cells #[] 93)) w.heap.size (w.alloc (.cells #[] 93)).heap.size (some ⟨w.heap.size, 0, none⟩) 0 [] (gridI (fun x y => O (y * W + x)) W 0) := MatAt.nil _ _ _ _ _ hrow0 (fun a ha => by cases ha; simp)
  have B0 : Below w.heap.size w (w.alloc (.cells #[] 93)) := Ext.more (Ext.refl _) _
  have OX := Lib.hid (fun V (hb : Below w.heap.size w V) y (hy : y < H) => own_any ⟨g, y * W, none⟩ W (n - y * W) (rowI (fun x y => O (y * W + x)) y W) V (rowI_length _ _ _) hW1 (by omega) (by have := (hB.under hb hB.lt).lt; exact this) (fun j u hu => by
    have hj : j < (ints (rowI (fun x y => O (y * W + x)) y W)).length := by
      by_cases e : j < (ints (rowI (fun x y => O (y * W + x)) y W)).length
      · exact e
      · rw [List.getElem?_eq_none (by omega)] at hu; cases hu
    have hj2 : j < W := by simpa [ints, rowI_length] using hj
    have hadd : (⟨g, y * W, none⟩ : Addr).add j = ⟨g, y * W + j, none⟩ := by unfold Addr.add; split <;> simp_all
    rw [hadd, (hB.under hb hB.lt).cell, intC_get _ _ (by rw [fL_length, hn]; exact pl_lt hj2 hy), fL_get, ← hu, List.getElem?_eq_getElem hj]
    simp [ints, rowI]))
  have YB : Hid (∀ y, y < H → y * W + W ≤ n) := by
    intro y hy
    have := Nat.mul_le_mul_right W (show y + 1 ≤ H by omega)
    rw [Nat.succ_mul, Nat.mul_comm H W, ← hn] at this
    exact this
  have YE : Hid (∀ y, y ≤ H → ¬ y < H → ¬ ((y * W : Nat) : Int) < (n : Int)) := by
    intro y h1 h2
    obtain rfl : y = H := by omega
    rw [hn, Nat.mul_comm]; omega
  have nb : n ≤ 256 := by rw [hn]; exact Nat.le_trans (Nat.mul_le_mul hW hH) (by decide)
  have E : Hid (gO O W H = gridI (fun x y => O (y * W + x)) W H) := rfl
  rw [E.out]
  generalize (fun x y => O (y * W + x)) = f at *
  clear hB hrow0 hn E
  go_enter Tryd.func57, Tryd.ntmps57
  go_wp2_with fail
  generalize w.alloc (.cells #[] 93) = w0 at *
  go_loopw [5, 6] (fun o i wr => ∃ (y c : Nat) (A : Option Addr) (vs : List Value), y ≤ H ∧ i = .int .i64 ((y * W : Nat) : Int) ∧ o = .slice A y c ∧ MatAt wr w.heap.size wr.heap.size A c vs (gridI f W y) ∧ Below w.heap.size w wr) (fun _ i _ => n + 1 - (intOf i).toNat)
  case atStart => exact ⟨0, _, _, _, Nat.zero_le _, by rw [Nat.zero_mul]; rfl, rfl, M0, B0⟩
  case round =>
    obtain ⟨y, c, A, vs, hy, rfl, rfl, hm, hb⟩ := hrel
    clear M0 B0
    by_cases hlt : y < H
    · have yb := YB.out y hlt
      have OK := Lib.hid (OX.out wr hb y hlt)
      have GS := Lib.hid (gridI_succ f W y)
      have RL := Lib.hid (rowI_length f y W)
      have GL := Lib.hid (gridI_length f W y)
      have hwz := hb.size
      have YS : Hid ((y + 1) * W = y * W + W) := Nat.succ_mul _ _
      have hyl : y ≤ 16 := by omega
      have MM := Lib.hid hm
      clear hm
      generalize hyw : y * W = yw at *
      have HYW := Lib.hid hyw
      clear hyw
      have i0 : (0 : Int) ≤ (yw : Int) := by omega
      have i1 : (yw : Int) < (n : Int) := by omega
      have i2 : (yw : Int) + (W : Int) ≤ (n : Int) := by omega
      have i3 : ((yw : Int) + (W : Int)).toNat = yw + W := by omega
      go_wp2_with fail
      refine OK.out.mono ?_
      rintro e w2 ⟨g2, c2, rfl, hrow, hb2⟩
      have hm2 := MM.out.ext hb2
      have hsz := hb2.size
      have hou := hm2.outer
      rw [GL.out] at hou
      go_wp2_with (at_builtin; refine wpList_app rowT (by rfl) _ _ (by rfl) w.heap.size (.slice A y c) y vs (by rfl) (hou.alloc _) w2.heap.size #[.slice (some ⟨g2, 0, none⟩) W c2] (by rfl) (heap_alloc_new _ _) rfl (by simp [Value.oneCell']) (by omega) (by simp; omega) ?_; intro g3 cap3 w3 hown3 hgrow3 hat3 hlt3)
      have PU : MatAt w3 w.heap.size w3.heap.size (some ⟨g3, 0, none⟩) cap3 (vs ++ [.slice (some ⟨g2, 0, none⟩) (rowI f y W).length c2]) (gridI f W y ++ [rowI f y W]) :=
        MatAt.push MM.out hb2 (by rw [RL.out]; exact hrow) hwz (Nat.le_refl _) (by rw [GL.out]; exact hgrow3) (by rw [GL.out, RL.out]; simpa using hown3)
      have B3 : Below w.heap.size w w3 := ((hb.trans (hb2.mono hwz)).alloc (by omega) _).grown hgrow3 (by simp; omega) (fun z hz => (hou.lt z hz).1)
      clear hown3 hgrow3 hat3 hou hm2 hrow
      go_wp2_with fail
      go_roundw
      case rel => exact ⟨y + 1, cap3, some ⟨g3, 0, none⟩, _, by omega, by rw [YS.out]; simp, rfl, by rw [GS.out]; exact PU, B3⟩
      case measure => simp [intOf]; omega
    · have t0 := YE.out y hy hlt
      obtain rfl : H = y := by omega
      go_wp2_with fail
      go_ret
      exact ⟨A, c, vs, rfl, hm, hb⟩

theorem gO_congr {O P : Nat → Int} {W H : Nat} (h : ∀ i, i < W * H → O i = P i) : gO O W H = gO P W H := by
  apply List.ext_getElem
  · simp [gO_length]
  · intro y h1 h2
    rw [gO_row, gO_row]
    rw [gO_length] at h1
    apply List.map_congr_left
    intro x hx
    exact h _ (pl_lt (List.mem_range.1 hx) h1)
/-- A call has returned a grey picture of memory of its own, and whether it is right. -/
def LevRes (w : World) (R : List (List Int)) (ok : Bool) (e : Ending) (w' : World) : Prop :=
  ∃ A c vs, e = .returned (.tuple #[.agg #[.slice A R.length c], .bool ok]) ∧ MatAt w' w.heap.size w'.heap.size A c vs R ∧ Below w.heap.size w w'
noncomputable def levR (rows : List (List Int)) : List (List Int) := if greyOk rows then gO (spillF rows) (tabW rows) rows.length else []
theorem lev_of {rows : List (List Int)} {W H n : Nat} (g : GreyN rows W H n) {O : Nat → Int} (h : IsPass W n (gF rows W) (fun i => edgeB W H i = true) O) : levR rows = gO O W H := by
  rw [levR, if_pos g.ok, g.w, g.h]
  apply gO_congr
  intro i hi
  rw [spillF, g.w, g.h]
  have hn := g.n
  rw [← hn] at hi ⊢
  exact passL_get h hi
end Go.Proofs.YtgbciimfpahekaaDoor

namespace Go.Proofs.YtgbciimfpahekaaDoor
open Go.RowKit

theorem LevRes.o {w w' : World} {R : List (List Int)} {ok : Bool} {e : Ending} (h : LevRes w R ok e w') : ∃ A c vs, e = .returned (.tuple #[.agg #[.slice A R.length c], .bool ok]) ∧ MatAt w' w.heap.size w'.heap.size A c vs R ∧ Below w.heap.size w w' := h
theorem tot_gO (O : Nat → Int) (W H : Nat) : ∀ k, k ≤ H → tot (gO O W H) k = k * W := by
  intro k
  induction k with
  | zero => intro _; simp [tot_zero]
  | succ k ih => intro h; rw [tot_succ (by rw [gO_length]; omega), ih (by omega), gO_w, Nat.succ_mul]
theorem gO_small (O : Nat → Int) (W H : Nat) (hW : W ≤ 16) (hH : H ≤ 16) : (gO O W H).length ≤ 1048576 ∧ tot (gO O W H) (gO O W H).length ≤ 1048576 ∧ ∀ i (h : i < (gO O W H).length), (gO O W H)[i].length ≤ 1048576 := by
  refine ⟨by rw [gO_length]; omega, ?_, fun i hi => by rw [gO_w]; omega⟩
  rw [gO_length, tot_gO O W H H (Nat.le_refl _)]
  exact Nat.le_trans (Nat.mul_le_mul hH hW) (by decide)
theorem levR_small (gr : List (List Int)) : (levR gr).length ≤ 1048576 ∧ tot (levR gr) (levR gr).length ≤ 1048576 ∧ ∀ i (h : i < (levR gr).length), (levR gr)[i].length ≤ 1048576 := by
  by_cases hp : greyOk gr = true
  · have s := tab_sizes hp
    have key : ∀ R, R = gO (spillF gr) (tabW gr) gr.length → R.length ≤ 1048576 ∧ tot R R.length ≤ 1048576 ∧ ∀ i (h : i < R.length), R[i].length ≤ 1048576 := by
      intro R e
      subst e
      exact gO_small _ _ _ (by omega) (by omega)
    exact key _ (by rw [levR, if_pos hp])
  · have key : ∀ R : List (List Int), R = [] → R.length ≤ 1048576 ∧ tot R R.length ≤ 1048576 ∧ ∀ i (h : i < R.length), R[i].length ≤ 1048576 := by
      intro R e
      subst e
      simp [tot]
    exact key _ (by rw [levR, if_neg hp])
end Go.Proofs.YtgbciimfpahekaaDoor
