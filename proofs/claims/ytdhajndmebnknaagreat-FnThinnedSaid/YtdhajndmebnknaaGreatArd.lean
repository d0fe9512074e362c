/- The neighbours of a pixel; a grey picture's sizes, numbers and spots. -/
import Derived.Test.YtdhajndmebnknaaGreatGrid
import Derived.Test.YtdhajndmebnknaaGreatHQ
import Derived.Test.YtdhajndmebnknaaGreatWaysB
import Derived.Test.YtdhajndmebnknaaGreatGIm
namespace Go.Proofs.YtdhajndmebnknaaGreat
open Go.RowKit

/-- How many neighbours are laid before a column and a row of the nine. -/
def arN (i j : Nat) : Nat := if i = 0 then (if j ≤ 1 then 0 else 1) else if i = 1 then (if j = 0 then 1 else if j ≤ 2 then 2 else 3) else if i = 2 then (if j ≤ 1 then 3 else 4) else 4
theorem own_spots {w : World} {base g cap n : Nat} {L : List (Int × Int)} (h : w.ownsRow base 38 2 (.slice (some ⟨g, 0, none⟩) n cap) n (spL L)) (hl : L.length = n) : SpAt w g L := by
  refine ⟨(h.lt g rfl).2, fun i hi => ⟨?_, ?_⟩⟩
  · rw [h.cellAt (i * 2) (by omega), spL_fst, List.getElem?_eq_getElem hi]; rfl
  · rw [h.cellAt (i * 2 + 1) (by omega), spL_snd, List.getElem?_eq_getElem hi]; rfl

set_option maxRecDepth 100000 in
set_option maxHeartbeats 4000000 in
theorem around_any (x y : Int) (w : World) (hx : -1000 ≤ x ∧ x ≤ 1000) (hy : -1000 ≤ y ∧ y ≤ 1000) :
    Calls Tryz.prog 64 #[.int .i64 x, .int .i64 y, .bool false] w fun e w' => ∃ g cap, e = .returned (.slice (some ⟨g, 0, none⟩) 4 cap) ∧ w'.ownsRow w.heap.size 38 2 (.slice (some ⟨g, 0, none⟩) 4 cap) 4 (spL (arL x y)) ∧ Below w.heap.size w w' := by
  have hrow0 := World.ownsRow_lit (e := 38) (size := 2) w #[] 0 (Nat.le_refl _) (by decide) rfl
  have B0 : Below w.heap.size w (w.alloc (.cells #[] 38)) := Ext.more (Ext.refl _) _
  obtain ⟨hx0, hx1⟩ := hx
  obtain ⟨hy0, hy1⟩ := hy
  have S0 : Hid (spL ((arL x y).take 1) = spL ((arL x y).take 0) ++ [.int .i64 x, .int .i64 (y - 1)]) := rfl
  have S1 : Hid (spL ((arL x y).take 2) = spL ((arL x y).take 1) ++ [.int .i64 (x - 1), .int .i64 y]) := rfl
  have S2 : Hid (spL ((arL x y).take 3) = spL ((arL x y).take 2) ++ [.int .i64 (x + 1), .int .i64 y]) := rfl
  have S3 : Hid (spL ((arL x y).take 4) = spL ((arL x y).take 3) ++ [.int .i64 x, .int .i64 (y + 1)]) := rfl
  have S4 : Hid (spL ((arL x y).take 4) = spL (arL x y)) := rfl
  have Z0 : Hid (spL ((arL x y).take 0) = []) := rfl
  generalize arL x y = ar at *
  go_enter Tryz.func64, Tryz.ntmps64
  go_wp2_with fail
  generalize w.alloc (.cells #[] 38) = w0 at *
  go_loopw [7, 8] (fun v dy wr => ∃ i gb cb : Nat, i ≤ 3 ∧ dy = .int .i64 ((i : Int) - 1) ∧ v = .slice (some ⟨gb, 0, none⟩) (arN i 0) cb ∧ wr.ownsRow w.heap.size 38 2 (.slice (some ⟨gb, 0, none⟩) (arN i 0) cb) (arN i 0) (spL (ar.take (arN i 0))) ∧ Below w.heap.size w wr) (fun _ dy _ => (2 - intOf dy).toNat)
  case atStart => exact ⟨0, _, 0, by omega, rfl, rfl, by rw [show arN 0 0 = 0 from rfl, Z0.out]; exact hrow0, B0⟩
  case round =>
    obtain ⟨i, gb, cb, hi, rfl, rfl, hown, hb⟩ := hrel
    clear hrow0 B0
    have hi4 : i = 0 ∨ i = 1 ∨ i = 2 ∨ i = 3 := by omega
    by_cases hlt : i < 3
    · obtain ⟨d, hd⟩ : ∃ d : Int, (i : Int) - 1 = d := ⟨_, rfl⟩
      rw [hd]
      have d1 : d ≤ 1 := by omega
      go_wp2_with fail
      go_loopw [7, 9] (fun v dx wr => ∃ j gb cb : Nat, j ≤ 3 ∧ dx = .int .i64 ((j : Int) - 1) ∧ v = .slice (some ⟨gb, 0, none⟩) (arN i j) cb ∧ wr.ownsRow w.heap.size 38 2 (.slice (some ⟨gb, 0, none⟩) (arN i j) cb) (arN i j) (spL (ar.take (arN i j))) ∧ Below w.heap.size w wr) (fun _ dx _ => (2 - intOf dx).toNat)
      case atStart => exact ⟨0, _, _, by omega, rfl, rfl, hown, hb⟩
      case round =>
        obtain ⟨j, gb, cb, hj, rfl, rfl, hown, hb⟩ := hrel
        have hsz := hb.size
        by_cases hjl : j < 3
        · obtain ⟨e, he⟩ : ∃ e : Int, (j : Int) - 1 = e := ⟨_, rfl⟩
          rw [he]
          have hdd : (i = 0 ∧ d = -1) ∨ (i = 1 ∧ d = 0) ∨ (i = 2 ∧ d = 1) := by omega
          have hee : (j = 0 ∧ e = -1) ∨ (j = 1 ∧ e = 0) ∨ (j = 2 ∧ e = 1) := by omega
          clear hd he hlt hjl hi hj d1 hi4
          rcases hdd with ⟨rfl, rfl⟩ | ⟨rfl, rfl⟩ | ⟨rfl, rfl⟩ <;> rcases hee with ⟨rfl, rfl⟩ | ⟨rfl, rfl⟩ | ⟨rfl, rfl⟩
          all_goals simp only [show arN 0 0 = 0 from rfl, show arN 0 1 = 0 from rfl, show arN 0 2 = 1 from rfl, show arN 1 0 = 1 from rfl, show arN 1 1 = 2 from rfl, show arN 1 2 = 2 from rfl, show arN 2 0 = 3 from rfl, show arN 2 1 = 3 from rfl, show arN 2 2 = 4 from rfl] at hown ⊢
          · go_wp2_with fail
            go_roundw
            case rel => exact ⟨1, _, _, by omega, rfl, rfl, hown, hb⟩
            case measure => simp [intOf]
          · go_wp2_with (at_builtin; refine wpList_app spotT (by rfl) _ _ (by rfl) w.heap.size (.slice (some ⟨gb, 0, none⟩) 0 cb) 0 (spL (ar.take 0)) (by rfl) (hown.alloc _) wr.heap.size #[.int .i64 x, .int .i64 (y + -1)] (by rfl) (heap_alloc_new _ _) rfl (by simp [Value.oneCell']) (by omega) (by simp; omega) ?_; intro g3 cap3 w3 hown3 hgrow3 hat3 hlt3)
            have hown4 : w3.ownsRow w.heap.size 38 2 (.slice (some ⟨g3, 0, none⟩) 1 cap3) 1 (spL (ar.take 1)) := by
              rw [S0.out]; simpa [Int.sub_eq_add_neg] using hown3
            have B3 : Below w.heap.size w w3 := (hb.alloc hb.size _).grown hgrow3 (by simp; omega) (fun z hz => (hown.lt z hz).1)
            clear hown3 hgrow3 hat3
            go_roundw
            case rel => exact ⟨2, _, _, by omega, rfl, rfl, hown4, B3⟩
            case measure => simp [intOf]
          · go_wp2_with fail
            go_roundw
            case rel => exact ⟨3, _, _, by omega, rfl, rfl, hown, hb⟩
            case measure => simp [intOf]
          · go_wp2_with (at_builtin; refine wpList_app spotT (by rfl) _ _ (by rfl) w.heap.size (.slice (some ⟨gb, 0, none⟩) 1 cb) 1 (spL (ar.take 1)) (by rfl) (hown.alloc _) wr.heap.size #[.int .i64 (x + -1), .int .i64 y] (by rfl) (heap_alloc_new _ _) rfl (by simp [Value.oneCell']) (by omega) (by simp; omega) ?_; intro g3 cap3 w3 hown3 hgrow3 hat3 hlt3)
            have hown4 : w3.ownsRow w.heap.size 38 2 (.slice (some ⟨g3, 0, none⟩) 2 cap3) 2 (spL (ar.take 2)) := by
              rw [S1.out]; simpa [Int.sub_eq_add_neg] using hown3
            have B3 : Below w.heap.size w w3 := (hb.alloc hb.size _).grown hgrow3 (by simp; omega) (fun z hz => (hown.lt z hz).1)
            clear hown3 hgrow3 hat3
            go_roundw
            case rel => exact ⟨1, _, _, by omega, rfl, rfl, hown4, B3⟩
            case measure => simp [intOf]
          · go_wp2_with fail
            go_roundw
            case rel => exact ⟨2, _, _, by omega, rfl, rfl, hown, hb⟩
            case measure => simp [intOf]
          · go_wp2_with (at_builtin; refine wpList_app spotT (by rfl) _ _ (by rfl) w.heap.size (.slice (some ⟨gb, 0, none⟩) 2 cb) 2 (spL (ar.take 2)) (by rfl) (hown.alloc _) wr.heap.size #[.int .i64 (x + 1), .int .i64 y] (by rfl) (heap_alloc_new _ _) rfl (by simp [Value.oneCell']) (by omega) (by simp; omega) ?_; intro g3 cap3 w3 hown3 hgrow3 hat3 hlt3)
            have hown4 : w3.ownsRow w.heap.size 38 2 (.slice (some ⟨g3, 0, none⟩) 3 cap3) 3 (spL (ar.take 3)) := by
              rw [S2.out]; simpa [Int.sub_eq_add_neg] using hown3
            have B3 : Below w.heap.size w w3 := (hb.alloc hb.size _).grown hgrow3 (by simp; omega) (fun z hz => (hown.lt z hz).1)
            clear hown3 hgrow3 hat3
            go_roundw
            case rel => exact ⟨3, _, _, by omega, rfl, rfl, hown4, B3⟩
            case measure => simp [intOf]
          · go_wp2_with fail
            go_roundw
            case rel => exact ⟨1, _, _, by omega, rfl, rfl, hown, hb⟩
            case measure => simp [intOf]
          · go_wp2_with (at_builtin; refine wpList_app spotT (by rfl) _ _ (by rfl) w.heap.size (.slice (some ⟨gb, 0, none⟩) 3 cb) 3 (spL (ar.take 3)) (by rfl) (hown.alloc _) wr.heap.size #[.int .i64 x, .int .i64 (y + 1)] (by rfl) (heap_alloc_new _ _) rfl (by simp [Value.oneCell']) (by omega) (by simp; omega) ?_; intro g3 cap3 w3 hown3 hgrow3 hat3 hlt3)
            have hown4 : w3.ownsRow w.heap.size 38 2 (.slice (some ⟨g3, 0, none⟩) 4 cap3) 4 (spL (ar.take 4)) := by
              rw [S3.out]; simpa [Int.sub_eq_add_neg] using hown3
            have B3 : Below w.heap.size w w3 := (hb.alloc hb.size _).grown hgrow3 (by simp; omega) (fun z hz => (hown.lt z hz).1)
            clear hown3 hgrow3 hat3
            go_roundw
            case rel => exact ⟨2, _, _, by omega, rfl, rfl, hown4, B3⟩
            case measure => simp [intOf]
          · go_wp2_with fail
            go_roundw
            case rel => exact ⟨3, _, _, by omega, rfl, rfl, hown, hb⟩
            case measure => simp [intOf]
        · obtain rfl : j = 3 := by omega
          have hdd : (i = 0 ∧ d = -1) ∨ (i = 1 ∧ d = 0) ∨ (i = 2 ∧ d = 1) := by omega
          clear hd hlt hjl hi hj d1 hi4
          rcases hdd with ⟨rfl, rfl⟩ | ⟨rfl, rfl⟩ | ⟨rfl, rfl⟩
          · go_wp2_with fail
            go_roundw
            case rel => exact ⟨1, _, _, by omega, rfl, rfl, hown, hb⟩
            case measure => simp [intOf]
          · go_wp2_with fail
            go_roundw
            case rel => exact ⟨2, _, _, by omega, rfl, rfl, hown, hb⟩
            case measure => simp [intOf]
          · go_wp2_with fail
            go_roundw
            case rel => exact ⟨3, _, _, by omega, rfl, rfl, hown, hb⟩
            case measure => simp [intOf]
    · obtain rfl : i = 3 := by omega
      rw [show arN 3 0 = 4 from rfl, S4.out] at hown
      go_wp2_with fail
      go_ret
      exact ⟨_, _, rfl, hown, hb⟩

/-- What reads a grey picture at a place. -/
theorem MatRd.num {w : World} {A : Option Addr} {rows : List (List Int)} (h : MatRd w A rows) {y x : Nat} (hy : y < rows.length) (hx : x < rows[y].length) :
    ∃ g gr cy, A = some ⟨g, 0, none⟩ ∧ g < w.heap.size ∧ w.cell? ⟨g, y, none⟩ = some (.slice (some ⟨gr, 0, none⟩) rows[y].length cy) ∧ gr < w.heap.size ∧ w.cell? ⟨gr, x, none⟩ = some (.int .i64 rows[y][x]) := by
  obtain ⟨g, rfl, hg, hc⟩ := h (by omega)
  obtain ⟨Ay, cy, k1, k2⟩ := hc y hy
  obtain ⟨gr, rfl, hgr, hcr⟩ := k2 (by simp [ints]; omega)
  have := hcr x (by simpa [ints] using hx)
  exact ⟨g, gr, cy, rfl, hg, k1, hgr, by rw [this]; simp [ints]⟩
/-- All spots in reading order. -/
def spG (W k : Nat) : List (Int × Int) := (List.range k).map fun i => (((i % W : Nat) : Int), ((i / W : Nat) : Int))
theorem spG_length (W k : Nat) : (spG W k).length = k := by simp [spG]
theorem spG_succ (W y x : Nat) (hx : x < W) : spL (spG W (y * W + (x + 1))) = spL (spG W (y * W + x)) ++ [.int .i64 x, .int .i64 y] := by
  rw [← Nat.add_assoc, spG, List.range_succ, List.map_append, spL_append]
  show _ ++ spL [((((y * W + x) % W : Nat) : Int), (((y * W + x) / W : Nat) : Int))] = _
  rw [plD hx, plM hx]
  rfl
end Go.Proofs.YtdhajndmebnknaaGreat
