/- The eight neighbours of a pixel. Printed by gen_ar8.py. -/
import Derived.Test.YtdhajndmebnknaaGreatSpr
import Derived.Test.YtdhajndmebnknaaGreatLabS
namespace Go.Proofs.YtdhajndmebnknaaGreat
open Go.RowKit

def ar8 (x y : Int) : List (Int × Int) := [((x - 1), (y - 1)), (x, (y - 1)), ((x + 1), (y - 1)), ((x - 1), y), ((x + 1), y), ((x - 1), (y + 1)), (x, (y + 1)), ((x + 1), (y + 1))]
def nb8 (p : Int × Int) : List (Int × Int) := ar8 p.1 p.2
/-- How many are laid before a column and a row of the nine. -/
def an8 (i j : Nat) : Nat := if 4 < 3 * i + j then 3 * i + j - 1 else 3 * i + j
set_option maxRecDepth 100000 in
set_option maxHeartbeats 4000000 in
theorem around8_any (x y : Int) (w : World) (hx : -1000 ≤ x ∧ x ≤ 1000) (hy : -1000 ≤ y ∧ y ≤ 1000) :
    Calls Tryz.prog 64 #[.int .i64 x, .int .i64 y, .bool true] w fun e w' => ∃ g cap, e = .returned (.slice (some ⟨g, 0, none⟩) 8 cap) ∧ w'.ownsRow w.heap.size 38 2 (.slice (some ⟨g, 0, none⟩) 8 cap) 8 (spL (ar8 x y)) ∧ Below w.heap.size w w' := by
  have hrow0 := World.ownsRow_lit (e := 38) (size := 2) w #[] 0 (Nat.le_refl _) (by decide) rfl
  have B0 : Below w.heap.size w (w.alloc (.cells #[] 38)) := Ext.more (Ext.refl _) _
  obtain ⟨hx0, hx1⟩ := hx
  obtain ⟨hy0, hy1⟩ := hy
  have S0 : Hid (spL ((ar8 x y).take 1) = spL ((ar8 x y).take 0) ++ [.int .i64 (x - 1), .int .i64 (y - 1)]) := rfl
  have S1 : Hid (spL ((ar8 x y).take 2) = spL ((ar8 x y).take 1) ++ [.int .i64 x, .int .i64 (y - 1)]) := rfl
  have S2 : Hid (spL ((ar8 x y).take 3) = spL ((ar8 x y).take 2) ++ [.int .i64 (x + 1), .int .i64 (y - 1)]) := rfl
  have S3 : Hid (spL ((ar8 x y).take 4) = spL ((ar8 x y).take 3) ++ [.int .i64 (x - 1), .int .i64 y]) := rfl
  have S4 : Hid (spL ((ar8 x y).take 5) = spL ((ar8 x y).take 4) ++ [.int .i64 (x + 1), .int .i64 y]) := rfl
  have S5 : Hid (spL ((ar8 x y).take 6) = spL ((ar8 x y).take 5) ++ [.int .i64 (x - 1), .int .i64 (y + 1)]) := rfl
  have S6 : Hid (spL ((ar8 x y).take 7) = spL ((ar8 x y).take 6) ++ [.int .i64 x, .int .i64 (y + 1)]) := rfl
  have S7 : Hid (spL ((ar8 x y).take 8) = spL ((ar8 x y).take 7) ++ [.int .i64 (x + 1), .int .i64 (y + 1)]) := rfl
  have SE : Hid (spL ((ar8 x y).take 8) = spL (ar8 x y)) := rfl
  have Z0 : Hid (spL ((ar8 x y).take 0) = []) := rfl
  generalize ar8 x y = ar at *
  go_enter Tryz.func64, Tryz.ntmps64
  go_wp2_with fail
  generalize w.alloc (.cells #[] 38) = w0 at *
  go_loopw [7, 8] (fun v dy wr => ∃ i gb cb : Nat, i ≤ 3 ∧ dy = .int .i64 ((i : Int) - 1) ∧ v = .slice (some ⟨gb, 0, none⟩) (an8 i 0) cb ∧ wr.ownsRow w.heap.size 38 2 (.slice (some ⟨gb, 0, none⟩) (an8 i 0) cb) (an8 i 0) (spL (ar.take (an8 i 0))) ∧ Below w.heap.size w wr) (fun _ dy _ => (2 - intOf dy).toNat)
  case atStart => exact ⟨0, _, 0, by omega, rfl, rfl, by rw [show an8 0 0 = 0 from rfl, Z0.out]; exact hrow0, B0⟩
  case round =>
    obtain ⟨i, gb, cb, hi, rfl, rfl, hown, hb⟩ := hrel
    clear hrow0 B0
    by_cases hlt : i < 3
    · obtain ⟨d, hd⟩ : ∃ d : Int, (i : Int) - 1 = d := ⟨_, rfl⟩
      rw [hd]
      have d1 : d ≤ 1 := by omega
      go_wp2_with fail
      go_loopw [7, 9] (fun v dx wr => ∃ j gb cb : Nat, j ≤ 3 ∧ dx = .int .i64 ((j : Int) - 1) ∧ v = .slice (some ⟨gb, 0, none⟩) (an8 i j) cb ∧ wr.ownsRow w.heap.size 38 2 (.slice (some ⟨gb, 0, none⟩) (an8 i j) cb) (an8 i j) (spL (ar.take (an8 i j))) ∧ Below w.heap.size w wr) (fun _ dx _ => (2 - intOf dx).toNat)
      case atStart => exact ⟨0, _, _, by omega, rfl, rfl, hown, hb⟩
      case round =>
        obtain ⟨j, gb, cb, hj, rfl, rfl, hown, hb⟩ := hrel
        have hsz := hb.size
        by_cases hjl : j < 3
        · obtain ⟨e, he⟩ : ∃ e : Int, (j : Int) - 1 = e := ⟨_, rfl⟩
          rw [he]
          have hdd : (i = 0 ∧ d = -1) ∨ (i = 1 ∧ d = 0) ∨ (i = 2 ∧ d = 1) := by omega
          have hee : (j = 0 ∧ e = -1) ∨ (j = 1 ∧ e = 0) ∨ (j = 2 ∧ e = 1) := by omega
          clear hd he hlt hjl hi hj d1
          rcases hdd with ⟨rfl, rfl⟩ | ⟨rfl, rfl⟩ | ⟨rfl, rfl⟩ <;> rcases hee with ⟨rfl, rfl⟩ | ⟨rfl, rfl⟩ | ⟨rfl, rfl⟩
          all_goals simp only [show an8 0 0 = 0 from rfl, show an8 0 1 = 1 from rfl, show an8 0 2 = 2 from rfl, show an8 1 0 = 3 from rfl, show an8 1 1 = 4 from rfl, show an8 1 2 = 4 from rfl, show an8 2 0 = 5 from rfl, show an8 2 1 = 6 from rfl, show an8 2 2 = 7 from rfl] at hown ⊢
          · go_wp2_with (at_builtin; refine wpList_app spotT (by rfl) _ _ (by rfl) w.heap.size (.slice (some ⟨gb, 0, none⟩) 0 cb) 0 (spL (ar.take 0)) (by rfl) (hown.alloc _) wr.heap.size #[.int .i64 (x + -1), .int .i64 (y + -1)] (by rfl) (heap_alloc_new _ _) rfl (by simp [Value.oneCell']) (by omega) (by simp; omega) ?_; intro g3 cap3 w3 hown3 hgrow3 hat3 hlt3)
            have hown4 : w3.ownsRow w.heap.size 38 2 (.slice (some ⟨g3, 0, none⟩) 1 cap3) 1 (spL (ar.take 1)) := by
              rw [S0.out]; simpa [Int.sub_eq_add_neg] using hown3
            have B3 : Below w.heap.size w w3 := (hb.alloc hb.size _).grown hgrow3 (by simp; omega) (fun z hz => (hown.lt z hz).1)
            clear hown3 hgrow3 hat3
            go_roundw
            case rel => exact ⟨1, _, _, by omega, rfl, rfl, hown4, B3⟩
            case measure => simp [intOf]
          · go_wp2_with (at_builtin; refine wpList_app spotT (by rfl) _ _ (by rfl) w.heap.size (.slice (some ⟨gb, 0, none⟩) 1 cb) 1 (spL (ar.take 1)) (by rfl) (hown.alloc _) wr.heap.size #[.int .i64 x, .int .i64 (y + -1)] (by rfl) (heap_alloc_new _ _) rfl (by simp [Value.oneCell']) (by omega) (by simp; omega) ?_; intro g3 cap3 w3 hown3 hgrow3 hat3 hlt3)
            have hown4 : w3.ownsRow w.heap.size 38 2 (.slice (some ⟨g3, 0, none⟩) 2 cap3) 2 (spL (ar.take 2)) := by
              rw [S1.out]; simpa [Int.sub_eq_add_neg] using hown3
            have B3 : Below w.heap.size w w3 := (hb.alloc hb.size _).grown hgrow3 (by simp; omega) (fun z hz => (hown.lt z hz).1)
            clear hown3 hgrow3 hat3
            go_roundw
            case rel => exact ⟨2, _, _, by omega, rfl, rfl, hown4, B3⟩
            case measure => simp [intOf]
          · go_wp2_with (at_builtin; refine wpList_app spotT (by rfl) _ _ (by rfl) w.heap.size (.slice (some ⟨gb, 0, none⟩) 2 cb) 2 (spL (ar.take 2)) (by rfl) (hown.alloc _) wr.heap.size #[.int .i64 (x + 1), .int .i64 (y + -1)] (by rfl) (heap_alloc_new _ _) rfl (by simp [Value.oneCell']) (by omega) (by simp; omega) ?_; intro g3 cap3 w3 hown3 hgrow3 hat3 hlt3)
            have hown4 : w3.ownsRow w.heap.size 38 2 (.slice (some ⟨g3, 0, none⟩) 3 cap3) 3 (spL (ar.take 3)) := by
              rw [S2.out]; simpa [Int.sub_eq_add_neg] using hown3
            have B3 : Below w.heap.size w w3 := (hb.alloc hb.size _).grown hgrow3 (by simp; omega) (fun z hz => (hown.lt z hz).1)
            clear hown3 hgrow3 hat3
            go_roundw
            case rel => exact ⟨3, _, _, by omega, rfl, rfl, hown4, B3⟩
            case measure => simp [intOf]
          · go_wp2_with (at_builtin; refine wpList_app spotT (by rfl) _ _ (by rfl) w.heap.size (.slice (some ⟨gb, 0, none⟩) 3 cb) 3 (spL (ar.take 3)) (by rfl) (hown.alloc _) wr.heap.size #[.int .i64 (x + -1), .int .i64 y] (by rfl) (heap_alloc_new _ _) rfl (by simp [Value.oneCell']) (by omega) (by simp; omega) ?_; intro g3 cap3 w3 hown3 hgrow3 hat3 hlt3)
            have hown4 : w3.ownsRow w.heap.size 38 2 (.slice (some ⟨g3, 0, none⟩) 4 cap3) 4 (spL (ar.take 4)) := by
              rw [S3.out]; simpa [Int.sub_eq_add_neg] using hown3
            have B3 : Below w.heap.size w w3 := (hb.alloc hb.size _).grown hgrow3 (by simp; omega) (fun z hz => (hown.lt z hz).1)
            clear hown3 hgrow3 hat3
            go_roundw
            case rel => exact ⟨1, _, _, by omega, rfl, rfl, hown4, B3⟩
            case measure => simp [intOf]
          · go_wp2_with fail
            go_roundw
            case rel => exact ⟨2, _, _, by omega, rfl, rfl, hown, hb⟩
            case measure => simp [intOf]
          · go_wp2_with (at_builtin; refine wpList_app spotT (by rfl) _ _ (by rfl) w.heap.size (.slice (some ⟨gb, 0, none⟩) 4 cb) 4 (spL (ar.take 4)) (by rfl) (hown.alloc _) wr.heap.size #[.int .i64 (x + 1), .int .i64 y] (by rfl) (heap_alloc_new _ _) rfl (by simp [Value.oneCell']) (by omega) (by simp; omega) ?_; intro g3 cap3 w3 hown3 hgrow3 hat3 hlt3)
            have hown4 : w3.ownsRow w.heap.size 38 2 (.slice (some ⟨g3, 0, none⟩) 5 cap3) 5 (spL (ar.take 5)) := by
              rw [S4.out]; simpa [Int.sub_eq_add_neg] using hown3
            have B3 : Below w.heap.size w w3 := (hb.alloc hb.size _).grown hgrow3 (by simp; omega) (fun z hz => (hown.lt z hz).1)
            clear hown3 hgrow3 hat3
            go_roundw
            case rel => exact ⟨3, _, _, by omega, rfl, rfl, hown4, B3⟩
            case measure => simp [intOf]
          · go_wp2_with (at_builtin; refine wpList_app spotT (by rfl) _ _ (by rfl) w.heap.size (.slice (some ⟨gb, 0, none⟩) 5 cb) 5 (spL (ar.take 5)) (by rfl) (hown.alloc _) wr.heap.size #[.int .i64 (x + -1), .int .i64 (y + 1)] (by rfl) (heap_alloc_new _ _) rfl (by simp [Value.oneCell']) (by omega) (by simp; omega) ?_; intro g3 cap3 w3 hown3 hgrow3 hat3 hlt3)
            have hown4 : w3.ownsRow w.heap.size 38 2 (.slice (some ⟨g3, 0, none⟩) 6 cap3) 6 (spL (ar.take 6)) := by
              rw [S5.out]; simpa [Int.sub_eq_add_neg] using hown3
            have B3 : Below w.heap.size w w3 := (hb.alloc hb.size _).grown hgrow3 (by simp; omega) (fun z hz => (hown.lt z hz).1)
            clear hown3 hgrow3 hat3
            go_roundw
            case rel => exact ⟨1, _, _, by omega, rfl, rfl, hown4, B3⟩
            case measure => simp [intOf]
          · go_wp2_with (at_builtin; refine wpList_app spotT (by rfl) _ _ (by rfl) w.heap.size (.slice (some ⟨gb, 0, none⟩) 6 cb) 6 (spL (ar.take 6)) (by rfl) (hown.alloc _) wr.heap.size #[.int .i64 x, .int .i64 (y + 1)] (by rfl) (heap_alloc_new _ _) rfl (by simp [Value.oneCell']) (by omega) (by simp; omega) ?_; intro g3 cap3 w3 hown3 hgrow3 hat3 hlt3)
            have hown4 : w3.ownsRow w.heap.size 38 2 (.slice (some ⟨g3, 0, none⟩) 7 cap3) 7 (spL (ar.take 7)) := by
              rw [S6.out]; simpa [Int.sub_eq_add_neg] using hown3
            have B3 : Below w.heap.size w w3 := (hb.alloc hb.size _).grown hgrow3 (by simp; omega) (fun z hz => (hown.lt z hz).1)
            clear hown3 hgrow3 hat3
            go_roundw
            case rel => exact ⟨2, _, _, by omega, rfl, rfl, hown4, B3⟩
            case measure => simp [intOf]
          · go_wp2_with (at_builtin; refine wpList_app spotT (by rfl) _ _ (by rfl) w.heap.size (.slice (some ⟨gb, 0, none⟩) 7 cb) 7 (spL (ar.take 7)) (by rfl) (hown.alloc _) wr.heap.size #[.int .i64 (x + 1), .int .i64 (y + 1)] (by rfl) (heap_alloc_new _ _) rfl (by simp [Value.oneCell']) (by omega) (by simp; omega) ?_; intro g3 cap3 w3 hown3 hgrow3 hat3 hlt3)
            have hown4 : w3.ownsRow w.heap.size 38 2 (.slice (some ⟨g3, 0, none⟩) 8 cap3) 8 (spL (ar.take 8)) := by
              rw [S7.out]; simpa [Int.sub_eq_add_neg] using hown3
            have B3 : Below w.heap.size w w3 := (hb.alloc hb.size _).grown hgrow3 (by simp; omega) (fun z hz => (hown.lt z hz).1)
            clear hown3 hgrow3 hat3
            go_roundw
            case rel => exact ⟨3, _, _, by omega, rfl, rfl, hown4, B3⟩
            case measure => simp [intOf]
        · obtain rfl : j = 3 := by omega
          have e3 : an8 i 3 = an8 (i + 1) 0 := by unfold an8; split <;> split <;> omega
          rw [e3] at hown
          rw [e3]
          go_wp2_with fail
          go_roundw
          case rel => exact ⟨i + 1, _, _, by omega, by rw [← hd]; go_num, rfl, hown, hb⟩
          case measure => simp [intOf]; omega
    · obtain rfl : i = 3 := by omega
      rw [show an8 3 0 = 8 from rfl] at hown
      rw [SE.out] at hown
      rw [show an8 3 0 = 8 from rfl]
      go_wp2_with fail
      go_ret
      exact ⟨gb, cb, rfl, hown, hb⟩
theorem nbT_eight : NbT true nb8 8 where
  len p := rfl
  near p q h := by
    simp only [nb8, ar8, List.mem_cons, List.not_mem_nil, or_false] at h
    rcases h with rfl | rfl | rfl | rfl | rfl | rfl | rfl | rfl <;> simp only <;> omega
  call x y V hx hy := around8_any x y V hx hy
end Go.Proofs.YtdhajndmebnknaaGreat
