/- The neighbours of a pixel; a grey picture's sizes, numbers and spots. -/
import Derived.Test.YtkamkjbllmgifaaGrid
import Derived.Test.YtkamkjbllmgifaaHQ
import Derived.Test.YtkamkjbllmgifaaWaysB
import Derived.Test.YtkamkjbllmgifaaGIm
namespace Go.Proofs.Ytkamkjbllmgifaa
open Go.RowKit

/-- How many neighbours are laid before a column and a row of the nine. -/
def arN (i j : Nat) : Nat := if i = 0 then (if j ≤ 1 then 0 else 1) else if i = 1 then (if j = 0 then 1 else if j ≤ 2 then 2 else 3) else if i = 2 then (if j ≤ 1 then 3 else 4) else 4
theorem own_spots {w : World} {base g cap n : Nat} {L : List (Int × Int)} (h : w.ownsRow base 39 2 (.slice (some ⟨g, 0, none⟩) n cap) n (spL L)) (hl : L.length = n) : SpAt w g L := by
  refine ⟨(h.lt g rfl).2, fun i hi => ⟨?_, ?_⟩⟩
  · rw [h.cellAt (i * 2) (by omega), spL_fst, List.getElem?_eq_getElem hi]; rfl
  · rw [h.cellAt (i * 2 + 1) (by omega), spL_snd, List.getElem?_eq_getElem hi]; rfl

set_option maxRecDepth 100000 in
set_option maxHeartbeats 4000000 in
theorem around_any (x y : Int) (w : World) (hx : -1000 ≤ x ∧ x ≤ 1000) (hy : -1000 ≤ y ∧ y ≤ 1000) :
    Calls Try.prog 74 #[.int .i64 x, .int .i64 y, .bool false] w fun e w' => ∃ g cap, e = .returned (.slice (some ⟨g, 0, none⟩) 4 cap) ∧ w'.ownsRow w.heap.size 39 2 (.slice (some ⟨g, 0, none⟩) 4 cap) 4 (spL (arL x y)) ∧ Below w.heap.size w w' := by
  have hrow0 := World.ownsRow_lit (e := 39) (size := 2) w #[] 0 (Nat.le_refl _) (by decide) rfl
  have B0 : Below w.heap.size w (w.alloc (.cells #[] 39)) := Ext.more (Ext.refl _) _
  obtain ⟨hx0, hx1⟩ := hx
  obtain ⟨hy0, hy1⟩ := hy
  have S0 : Hid (spL ((arL x y).take 1) = spL ((arL x y).take 0) ++ [.int .i64 x, .int .i64 (y - 1)]) := rfl
  have S1 : Hid (spL ((arL x y).take 2) = spL ((arL x y).take 1) ++ [.int .i64 (x - 1), .int .i64 y]) := rfl
  have S2 : Hid (spL ((arL x y).take 3) = spL ((arL x y).take 2) ++ [.int .i64 (x + 1), .int .i64 y]) := rfl
  have S3 : Hid (spL ((arL x y).take 4) = spL ((arL x y).take 3) ++ [.int .i64 x, .int .i64 (y + 1)]) := rfl
  have S4 : Hid (spL ((arL x y).take 4) = spL (arL x y)) := rfl
  have Z0 : Hid (spL ((arL x y).take 0) = []) := rfl
  generalize arL x y = ar at *
  go_enter Try.func74, Try.ntmps74
  go_wp2_with fail
  generalize w.alloc (.cells #[] 39) = w0 at *
  go_loopw [7, 8] (fun v dy wr => ∃ i gb cb : Nat, i ≤ 3 ∧ dy = .int .i64 ((i : Int) - 1) ∧ v = .slice (some ⟨gb, 0, none⟩) (arN i 0) cb ∧ wr.ownsRow w.heap.size 39 2 (.slice (some ⟨gb, 0, none⟩) (arN i 0) cb) (arN i 0) (spL (ar.take (arN i 0))) ∧ Below w.heap.size w wr) (fun _ dy _ => (2 - intOf dy).toNat)
  case atStart => exact ⟨0, _, 0, by omega, rfl, rfl, by rw [show arN 0 0 = 0 from rfl, Z0.out]; exact hrow0, B0⟩
  case round =>
    obtain ⟨i, gb, cb, hi, rfl, rfl, hown, hb⟩ := hrel
    clear hrow0 B0
    have hi4 : i = 0 ∨ i = 1 ∨ i = 2 ∨ i = 3 := by omega
    by_cases hlt : i < 3
    · obtain ⟨d, hd⟩ : ∃ d : Int, (i : Int) - 1 = d := ⟨_, rfl⟩
      rw [hd]
      have d1 : d ≤ 1 := by omega
      go_wp2_with fail
      go_loopw [7, 9] (fun v dx wr => ∃ j gb cb : Nat, j ≤ 3 ∧ dx = .int .i64 ((j : Int) - 1) ∧ v = .slice (some ⟨gb, 0, none⟩) (arN i j) cb ∧ wr.ownsRow w.heap.size 39 2 (.slice (some ⟨gb, 0, none⟩) (arN i j) cb) (arN i j) (spL (ar.take (arN i j))) ∧ Below w.heap.size w wr) (fun _ dx _ => (2 - intOf dx).toNat)
      case atStart => exact ⟨0, _, _, by omega, rfl, rfl, hown, hb⟩
      case round =>
        obtain ⟨j, gb, cb, hj, rfl, rfl, hown, hb⟩ := hrel
        have hsz := hb.size
        by_cases hjl : j < 3
        · obtain ⟨e, he⟩ : ∃ e : Int, (j : Int) - 1 = e := ⟨_, rfl⟩
          rw [he]
          have hdd : (i = 0 ∧ d = -1) ∨ (i = 1 ∧ d = 0) ∨ (i = 2 ∧ d = 1) := by omega
          have hee : (j = 0 ∧ e = -1) ∨ (j = 1 ∧ e = 0) ∨ (j = 2 ∧ e = 1) := by omega
          clear hd he hlt hjl hi hj d1 hi4
          rcases hdd with ⟨rfl, rfl⟩ | ⟨rfl, rfl⟩ | ⟨rfl, rfl⟩ <;> rcases hee with ⟨rfl, rfl⟩ | ⟨rfl, rfl⟩ | ⟨rfl, rfl⟩
          all_goals simp only [show arN 0 0 = 0 from rfl, show arN 0 1 = 0 from rfl, show arN 0 2 = 1 from rfl, show arN 1 0 = 1 from rfl, show arN 1 1 = 2 from rfl, show arN 1 2 = 2 from rfl, show arN 2 0 = 3 from rfl, show arN 2 1 = 3 from rfl, show arN 2 2 = 4 from rfl] at hown ⊢
          · go_wp2_with fail
            go_roundw
            case rel => exact ⟨1, _, _, by omega, rfl, rfl, hown, hb⟩
            case measure => simp [intOf]
          · go_wp2_with (at_builtin; refine wpList_app spotT (by rfl) _ _ (by rfl) w.heap.size (.slice (some ⟨gb, 0, none⟩) 0 cb) 0 (spL (ar.take 0)) (by rfl) (hown.alloc _) wr.heap.size #[.int .i64 x, .int .i64 (y + -1)] (by rfl) (heap_alloc_new _ _) rfl (by simp [Value.oneCell']) (by omega) (by simp; omega) ?_; intro g3 cap3 w3 hown3 hgrow3 hat3 hlt3)
            have hown4 : w3.ownsRow w.heap.size 39 2 (.slice (some ⟨g3, 0, none⟩) 1 cap3) 1 (spL (ar.take 1)) := by
              rw [S0.out]; simpa [Int.sub_eq_add_neg] using hown3
            have B3 : Below w.heap.size w w3 := (hb.alloc hb.size _).grown hgrow3 (by simp; omega) (fun z hz => (hown.lt z hz).1)
            clear hown3 hgrow3 hat3
            go_roundw
            case rel => exact ⟨2, _, _, by omega, rfl, rfl, hown4, B3⟩
            case measure => simp [intOf]
          · go_wp2_with fail
            go_roundw
            case rel => exact ⟨3, _, _, by omega, rfl, rfl, hown, hb⟩
            case measure => simp [intOf]
          · go_wp2_with (at_builtin; refine wpList_app spotT (by rfl) _ _ (by rfl) w.heap.size (.slice (some ⟨gb, 0, none⟩) 1 cb) 1 (spL (ar.take 1)) (by rfl) (hown.alloc _) wr.heap.size #[.int .i64 (x + -1), .int .i64 y] (by rfl) (heap_alloc_new _ _) rfl (by simp [Value.oneCell']) (by omega) (by simp; omega) ?_; intro g3 cap3 w3 hown3 hgrow3 hat3 hlt3)
            have hown4 : w3.ownsRow w.heap.size 39 2 (.slice (some ⟨g3, 0, none⟩) 2 cap3) 2 (spL (ar.take 2)) := by
              rw [S1.out]; simpa [Int.sub_eq_add_neg] using hown3
            have B3 : Below w.heap.size w w3 := (hb.alloc hb.size _).grown hgrow3 (by simp; omega) (fun z hz => (hown.lt z hz).1)
            clear hown3 hgrow3 hat3
            go_roundw
            case rel => exact ⟨1, _, _, by omega, rfl, rfl, hown4, B3⟩
            case measure => simp [intOf]
          · go_wp2_with fail
            go_roundw
            case rel => exact ⟨2, _, _, by omega, rfl, rfl, hown, hb⟩
            case measure => simp [intOf]
          · go_wp2_with (at_builtin; refine wpList_app spotT (by rfl) _ _ (by rfl) w.heap.size (.slice (some ⟨gb, 0, none⟩) 2 cb) 2 (spL (ar.take 2)) (by rfl) (hown.alloc _) wr.heap.size #[.int .i64 (x + 1), .int .i64 y] (by rfl) (heap_alloc_new _ _) rfl (by simp [Value.oneCell']) (by omega) (by simp; omega) ?_; intro g3 cap3 w3 hown3 hgrow3 hat3 hlt3)
            have hown4 : w3.ownsRow w.heap.size 39 2 (.slice (some ⟨g3, 0, none⟩) 3 cap3) 3 (spL (ar.take 3)) := by
              rw [S2.out]; simpa [Int.sub_eq_add_neg] using hown3
            have B3 : Below w.heap.size w w3 := (hb.alloc hb.size _).grown hgrow3 (by simp; omega) (fun z hz => (hown.lt z hz).1)
            clear hown3 hgrow3 hat3
            go_roundw
            case rel => exact ⟨3, _, _, by omega, rfl, rfl, hown4, B3⟩
            case measure => simp [intOf]
          · go_wp2_with fail
            go_roundw
            case rel => exact ⟨1, _, _, by omega, rfl, rfl, hown, hb⟩
            case measure => simp [intOf]
          · go_wp2_with (at_builtin; refine wpList_app spotT (by rfl) _ _ (by rfl) w.heap.size (.slice (some ⟨gb, 0, none⟩) 3 cb) 3 (spL (ar.take 3)) (by rfl) (hown.alloc _) wr.heap.size #[.int .i64 x, .int .i64 (y + 1)] (by rfl) (heap_alloc_new _ _) rfl (by simp [Value.oneCell']) (by omega) (by simp; omega) ?_; intro g3 cap3 w3 hown3 hgrow3 hat3 hlt3)
            have hown4 : w3.ownsRow w.heap.size 39 2 (.slice (some ⟨g3, 0, none⟩) 4 cap3) 4 (spL (ar.take 4)) := by
              rw [S3.out]; simpa [Int.sub_eq_add_neg] using hown3
            have B3 : Below w.heap.size w w3 := (hb.alloc hb.size _).grown hgrow3 (by simp; omega) (fun z hz => (hown.lt z hz).1)
            clear hown3 hgrow3 hat3
            go_roundw
            case rel => exact ⟨2, _, _, by omega, rfl, rfl, hown4, B3⟩
            case measure => simp [intOf]
          · go_wp2_with fail
            go_roundw
            case rel => exact ⟨3, _, _, by omega, rfl, rfl, hown, hb⟩
            case measure => simp [intOf]
        · obtain rfl : j = 3 := by omega
          have hdd : (i = 0 ∧ d = -1) ∨ (i = 1 ∧ d = 0) ∨ (i = 2 ∧ d = 1) := by omega
          clear hd hlt hjl hi hj d1 hi4
          rcases hdd with ⟨rfl, rfl⟩ | ⟨rfl, rfl⟩ | ⟨rfl, rfl⟩
          · go_wp2_with fail
            go_roundw
            case rel => exact ⟨1, _, _, by omega, rfl, rfl, hown, hb⟩
            case measure => simp [intOf]
          · go_wp2_with fail
            go_roundw
            case rel => exact ⟨2, _, _, by omega, rfl, rfl, hown, hb⟩
            case measure => simp [intOf]
          · go_wp2_with fail
            go_roundw
            case rel => exact ⟨3, _, _, by omega, rfl, rfl, hown, hb⟩
            case measure => simp [intOf]
    · obtain rfl : i = 3 := by omega
      rw [show arN 3 0 = 4 from rfl, S4.out] at hown
      go_wp2_with fail
      go_ret
      exact ⟨_, _, rfl, hown, hb⟩

/-- What reads a grey picture at a place. -/
theorem MatRd.num {w : World} {A : Option Addr} {rows : List (List Int)} (h : MatRd w A rows) {y x : Nat} (hy : y < rows.length) (hx : x < rows[y].length) :
    ∃ g gr cy, A = some ⟨g, 0, none⟩ ∧ g < w.heap.size ∧ w.cell? ⟨g, y, none⟩ = some (.slice (some ⟨gr, 0, none⟩) rows[y].length cy) ∧ gr < w.heap.size ∧ w.cell? ⟨gr, x, none⟩ = some (.int .i64 rows[y][x]) := by
  obtain ⟨g, rfl, hg, hc⟩ := h (by omega)
  obtain ⟨Ay, cy, k1, k2⟩ := hc y hy
  obtain ⟨gr, rfl, hgr, hcr⟩ := k2 (by simp [ints]; omega)
  have := hcr x (by simpa [ints] using hx)
  exact ⟨g, gr, cy, rfl, hg, k1, hgr, by rw [this]; simp [ints]⟩
set_option maxHeartbeats 400000 in
theorem at_any (p : Nat) (A : Option Addr) (c : Nat) (rows : List (List Int)) (x y : Nat) (w : World) (h : GreyAt w p A c rows) (hy : y < rows.length) (hx : x < rows[y].length) :
    Calls Try.prog 41 #[.pointer (some ⟨p, 0, none⟩), .agg #[.int .i64 x, .int .i64 y]] w fun e w' => e = .returned (.int .i64 rows[y][x]) ∧ Below w.heap.size w w' := by
  have c0 := (h.ext (Ext.more (Ext.refl w) (.cells #[.int .i64 x, .int .i64 y] 39))).cell
  obtain ⟨g, gr, cy, rfl, hg, k1, hgr, k2⟩ := (h.ext (Ext.more (Ext.refl w) (.cells #[.int .i64 x, .int .i64 y] 39))).rd.num hy hx
  have B0 : Below w.heap.size w (w.alloc (.cells #[.int .i64 x, .int .i64 y] 39)) := Ext.more (Ext.refl _) _
  have k3 : (w.alloc (.cells #[.int .i64 x, .int .i64 y] 39)).cell? ⟨w.heap.size, 0, none⟩ = some (.int .i64 x) := cell_new w _ _ 0
  have k4 : (w.alloc (.cells #[.int .i64 x, .int .i64 y] 39)).cell? ⟨w.heap.size, 1, none⟩ = some (.int .i64 y) := cell_new w _ _ 1
  clear h
  generalize rows[y][x] = v at *
  generalize rows[y].length = W at *
  generalize rows.length = H at *
  have i0 : (0 : Int) ≤ (y : Int) := by omega
  have i1 : (y : Int) < (H : Int) := by omega
  have i2 : (0 : Int) ≤ (x : Int) := by omega
  have i3 : (x : Int) < (W : Int) := by omega
  go_enter Try.func41, Try.ntmps41
  go_wp2_with fail
  generalize w.alloc (.cells #[.int .i64 x, .int .i64 y] 39) = w1 at *
  go_quiet (fail)
  go_wp2_with fail
  go_ret
  exact ⟨rfl, Ext.drawN B0 _⟩
set_option maxHeartbeats 400000 in
theorem has_any' (p : Nat) (A : Option Addr) (c : Nat) (rows : List (List Int)) (x y : Int) (w : World) (h : GreyAt w p A c rows) (hn : 0 < rows.length) (hW : tabW rows ≤ 1000) (hH : rows.length ≤ 1000) :
    Calls Try.prog 44 #[.pointer (some ⟨p, 0, none⟩), .agg #[.int .i64 x, .int .i64 y]] w fun e w' => e = .returned (.bool (inG (tabW rows) rows.length (x, y))) ∧ Below w.heap.size w w' := by
  have B0 : Below w.heap.size w (w.alloc (.cells #[.int .i64 x, .int .i64 y] 39)) := Ext.more (Ext.refl _) _
  have SZ := Lib.hid (sizes_any p A c rows _ (h.ext B0) hn)
  have k3 : (w.alloc (.cells #[.int .i64 x, .int .i64 y] 39)).cell? ⟨w.heap.size, 0, none⟩ = some (.int .i64 x) := cell_new w _ _ 0
  have k4 : (w.alloc (.cells #[.int .i64 x, .int .i64 y] 39)).cell? ⟨w.heap.size, 1, none⟩ = some (.int .i64 y) := cell_new w _ _ 1
  have I1 := Lib.hid (fun V => in_any x 0 ((tabW rows : Int) - 1) V)
  have I2 := Lib.hid (fun V => in_any y 0 ((rows.length : Int) - 1) V)
  have E : Hid (inG (tabW rows) rows.length (x, y) = (inB x 0 ((tabW rows : Int) - 1) && inB y 0 ((rows.length : Int) - 1))) := rfl
  rw [E.out]
  clear E h hn
  generalize tabW rows = W at *
  generalize rows.length = H at *
  cases h1 : inB x 0 ((W : Int) - 1)
  · rw [h1] at I1
    clear h1
    go_enter Try.func44, Try.ntmps44
    go_wp2_with fail
    generalize w.alloc (.cells #[.int .i64 x, .int .i64 y] 39) = w1 at *
    refine SZ.out.mono ?_
    rintro e w2 ⟨rfl, n, rfl⟩
    replace k3 := cell_drewN (n := n) k3
    replace k4 := cell_drewN (n := n) k4
    go_wp2_with (go_at_call 39; refine (I1.out _).mono ?_; rintro e w' ⟨rfl, rfl⟩)
    go_ret
    exact ⟨rfl, Ext.drawN B0 _⟩
  · rw [h1] at I1
    clear h1
    generalize inB y 0 ((H : Int) - 1) = b2 at *
    go_enter Try.func44, Try.ntmps44
    go_wp2_with fail
    generalize w.alloc (.cells #[.int .i64 x, .int .i64 y] 39) = w1 at *
    refine SZ.out.mono ?_
    rintro e w2 ⟨rfl, n, rfl⟩
    replace k3 := cell_drewN (n := n) k3
    replace k4 := cell_drewN (n := n) k4
    go_wp2_with fail
    refine (I1.out _).mono ?_
    rintro e w' ⟨rfl, rfl⟩
    go_wp2_with fail
    refine (I2.out _).mono ?_
    rintro e w' ⟨rfl, rfl⟩
    go_wp2_with fail
    go_ret
    exact ⟨rfl, Ext.drawN B0 _⟩

/-- All spots in reading order. -/
def spG (W k : Nat) : List (Int × Int) := (List.range k).map fun i => (((i % W : Nat) : Int), ((i / W : Nat) : Int))
theorem spG_length (W k : Nat) : (spG W k).length = k := by simp [spG]
theorem spG_succ (W y x : Nat) (hx : x < W) : spL (spG W (y * W + (x + 1))) = spL (spG W (y * W + x)) ++ [.int .i64 x, .int .i64 y] := by
  rw [← Nat.add_assoc, spG, List.range_succ, List.map_append, spL_append]
  show _ ++ spL [((((y * W + x) % W : Nat) : Int), (((y * W + x) / W : Nat) : Int))] = _
  rw [plD hx, plM hx]
  rfl
set_option maxRecDepth 100000 in
set_option maxHeartbeats 1000000 in
theorem spots_any' (p : Nat) (A : Option Addr) (c : Nat) (rows : List (List Int)) (W : Nat) (w : World) (h : GreyAt w p A c rows) (hW : W ≤ 1000) (hH : rows.length ≤ 1000) (hr : ∀ y (hy : y < rows.length), rows[y].length = W) :
    Calls Try.prog 46 #[.pointer (some ⟨p, 0, none⟩)] w fun e w' => ∃ g cap, e = .returned (.slice (some ⟨g, 0, none⟩) (rows.length * W) cap) ∧ w'.ownsRow w.heap.size 39 2 (.slice (some ⟨g, 0, none⟩) (rows.length * W) cap) (rows.length * W) (spL (spG W (rows.length * W))) ∧ Below w.heap.size w w' := by
  have hrow0 := World.ownsRow_lit (e := 39) (size := 2) w #[] 0 (Nat.le_refl _) (by decide) rfl
  have B0 : Below w.heap.size w (w.alloc (.cells #[] 39)) := Ext.more (Ext.refl _) _
  have RD := Lib.hid (fun V (hb : Below w.heap.size w V) => (h.ext hb).rd)
  have c0 := (h.ext B0).cell
  have HR := Lib.hid hr
  obtain ⟨H, hH2⟩ : ∃ H, rows.length = H := ⟨_, rfl⟩
  have HL := Lib.hid hH2
  have hmul : H * W ≤ 1000000 := Nat.le_trans (Nat.mul_le_mul (show H ≤ 1000 by omega) hW) (by decide)
  have YB : Hid (∀ y, y < H → y * W + W ≤ H * W) := by
    intro y hy
    have := Nat.mul_le_mul_right W (show y + 1 ≤ H by omega)
    rw [Nat.succ_mul] at this
    exact this
  rw [hH2] at hH c0 ⊢
  clear hH2 hr h
  go_enter Try.func46, Try.ntmps46
  go_wp2_with fail
  generalize w.alloc (.cells #[] 39) = w0 at *
  clear c0
  go_loopw [3, 13] (fun v i wr => ∃ y gb cb : Nat, y ≤ H ∧ i = .int .i64 y ∧ v = .slice (some ⟨gb, 0, none⟩) (y * W) cb ∧ wr.ownsRow w.heap.size 39 2 (.slice (some ⟨gb, 0, none⟩) (y * W) cb) (y * W) (spL (spG W (y * W))) ∧ Below w.heap.size w wr) (fun _ i _ => H - (intOf i).toNat)
  case atStart => exact ⟨0, w.heap.size, 0, Nat.zero_le _, rfl, by rw [Nat.zero_mul], by rw [Nat.zero_mul]; exact hrow0, B0⟩
  case round =>
    obtain ⟨y, gb, cb, hy, rfl, rfl, hown, hb⟩ := hrel
    clear hrow0 B0
    by_cases hlt : y < H
    · have R := RD.out wr hb
      obtain ⟨g, rfl, hg, hc⟩ := R (by rw [HL.out]; omega)
      obtain ⟨Ay, cy, k1, _⟩ := hc y (by rw [HL.out]; exact hlt)
      rw [HR.out y (by rw [HL.out]; exact hlt)] at k1
      have i0 : (0 : Int) ≤ (y : Int) := by omega
      have i1 : (y : Int) < (H : Int) := by omega
      have yb := YB.out y hlt
      clear hc R
      go_wp2_with fail
      clear k1
      go_loopw [3, 20] (fun v i wr => ∃ x gb cb : Nat, x ≤ W ∧ i = .int .i64 x ∧ v = .slice (some ⟨gb, 0, none⟩) (y * W + x) cb ∧ wr.ownsRow w.heap.size 39 2 (.slice (some ⟨gb, 0, none⟩) (y * W + x) cb) (y * W + x) (spL (spG W (y * W + x))) ∧ Below w.heap.size w wr) (fun _ i _ => W - (intOf i).toNat)
      case atStart => exact ⟨0, _, _, Nat.zero_le _, rfl, rfl, hown, hb⟩
      case round =>
        obtain ⟨x, gb, cb, hx, rfl, rfl, hown, hb⟩ := hrel
        have hsz := hb.size
        by_cases hxl : x < W
        · have SG := Lib.hid (spG_succ W y x hxl)
          generalize hk : y * W + x = k at *
          have hk2 : y * W + (x + 1) = k + 1 := by omega
          rw [hk2] at SG
          have HK := Lib.hid hk2
          have kb : k ≤ 1000000000 := by omega
          clear hk hk2
          go_wp2_with (at_builtin; refine wpList_app spotT (by rfl) _ _ (by rfl) w.heap.size (.slice (some ⟨gb, 0, none⟩) k cb) k (spL (spG W k)) (by rfl) (hown.alloc _) wr.heap.size #[.int .i64 x, .int .i64 y] (by rfl) (heap_alloc_new _ _) rfl (by simp [Value.oneCell']) (by omega) (by simp; omega) ?_; intro g3 cap3 w3 hown3 hgrow3 hat3 hlt3)
          have hown4 : w3.ownsRow w.heap.size 39 2 (.slice (some ⟨g3, 0, none⟩) (k + 1) cap3) (k + 1) (spL (spG W (k + 1))) := by
            rw [SG.out]; simpa using hown3
          have B3 : Below w.heap.size w w3 := (hb.alloc hb.size _).grown hgrow3 (by simp; omega) (fun z hz => (hown.lt z hz).1)
          clear hown3 hgrow3 hat3
          go_roundw
          case rel => exact ⟨x + 1, g3, cap3, by omega, by go_num, by rw [HK.out], by rw [HK.out]; exact hown4, B3⟩
          case measure => simp [intOf]; omega
        · obtain rfl : x = W := by omega
          have e : y * x + x = (y + 1) * x := by rw [Nat.succ_mul]
          rw [e] at hown ⊢
          go_wp2_with fail
          go_roundw
          case rel => exact ⟨y + 1, _, _, by omega, by go_num, rfl, hown, hb⟩
          case measure => simp [intOf]; omega
    · obtain rfl : y = H := by omega
      go_wp2_with fail
      go_ret
      exact ⟨_, _, rfl, hown, hb⟩
end Go.Proofs.Ytkamkjbllmgifaa
