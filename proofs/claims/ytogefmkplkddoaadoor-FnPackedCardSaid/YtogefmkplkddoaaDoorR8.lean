/- The laws' drawn pictures, sameness and pixels. -/
import Derived.Test.YtogefmkplkddoaaDoorDraw
import Derived.Test.YtogefmkplkddoaaDoorResP
namespace Go.Proofs.YtogefmkplkddoaaDoor
open Go.RowKit

/-- A call has returned a picture of new memory with at most m columns and rows. -/
def Drawn (m : Nat) (w : World) (e : Ending) (w' : World) : Prop :=
  ∃ A c W H L, e = .returned (.agg #[.slice A H c]) ∧ 0 < W ∧ W ≤ m ∧ 0 < H ∧ H ≤ m ∧ L.length = W * H ∧ w'.ownsRow w.heap.size 9 1 (.slice A H c) H (strs (rowsTo L W H)) ∧ Below w.heap.size w w'

set_option maxRecDepth 100000 in
set_option maxHeartbeats 1000000 in
theorem r8Picture_any (A : Option Addr) (n c : Nat) (l : List Int) (w : World) (hl : BytesAt w A n l) (hn : n ≤ maxLen) :
    Calls Tryd.prog 26 #[.slice A n c] w (Drawn 8 w) := by
  have F0 := Lib.hid (from0_any A n c l (w.alloc (.cells #[.slice none 0 0] 36)) (hl.ext (Ext.more (Ext.refl _) _)))
  have R0 := Blk.made w 36 #[.slice none 0 0]
  have B0 : Below w.heap.size w (w.alloc (.cells #[.slice none 0 0] 36)) := Ext.more (Ext.refl _) _
  clear hl
  go_enter Tryd.func26, Tryd.ntmps26
  go_wp2_with fail
  refine F0.out.mono ?_
  rintro e w1 ⟨s, rfl, S1, hb1⟩
  replace R0 := R0.under hb1 R0.lt
  replace B0 := Ext.then_ B0 hb1
  simp only [World.size_alloc] at S1
  clear hb1
  go_wp2_with fail
  refine (pick_any _ s A n c 0 l 8 (by decide) (by decide) w1 S1 hn (by omega)).mono ?_
  rintro e w2 ⟨⟨k, hk, rfl⟩, ⟨j, hj, S2⟩, ho⟩
  have hsw := S1.high
  replace R0 := ho.blk R0 (fun e => by omega)
  replace B0 := B0.trans (ho.below (fun b hb => by subst hb; omega) (by have := R0.lt; have := ho.size; have := B0.size; omega))
  clear S1 ho
  go_wp2_with fail
  refine (pick_any _ s A n c j l 8 (by decide) (by decide) w2 S2 hn (by omega)).mono ?_
  rintro e w3 ⟨⟨k2, hk2, rfl⟩, ⟨j2, hj2, S3⟩, ho⟩
  replace R0 := ho.blk R0 (fun e => by omega)
  replace B0 := B0.trans (ho.below (fun b hb => by subst hb; omega) (by have := R0.lt; have := ho.size; have := B0.size; omega))
  clear S2 ho
  obtain ⟨Wd, hWd⟩ : ∃ Wd, k + 1 = Wd := ⟨_, rfl⟩
  obtain ⟨Ht, hHt⟩ : ∃ Ht, k2 + 1 = Ht := ⟨_, rfl⟩
  have e1 : (1 : Int) + (k : Int) = (Wd : Int) := by omega
  have e2 : (1 : Int) + (k2 : Int) = (Ht : Int) := by omega
  have DR := Lib.hid (draw_any _ s A n c j2 l Wd Ht w3 S3 hn (by omega) (by omega) (by omega) (by omega) (by omega))
  rw [e1]
  go_wp2_with fail

  refine DR.out.mono ?_
  rintro e w4 ⟨A4, c4, L, rfl, hL, own4, ch⟩
  have z3 := R0.lt
  replace R0 := ch.blk R0 (fun e => by omega)
  have y3 := B0.size
  replace B0 := B0.trans (ch.below (fun b hb => by omega) (by omega))
  have c0 := R0.cell 0
  have f0 := R0.free 0
  have cs := (R0.store 0 (.slice A4 Ht c4)).cell 0
  simp at c0 cs
  have HL := Lib.hid hL
  clear hL S3 ch DR
  go_wp2_with fail
  refine bodyPost_ret (v := .agg #[.slice A4 Ht c4]) (by simp [results, Tryd.results26, go_sem, cs]) rfl ⟨A4, c4, Wd, Ht, L, rfl, by omega, by omega, by omega, by omega, HL.out, ?_, ?_⟩
  · exact own_base (ownsRow_setCell_below own4 (a := ⟨w.heap.size, 0, none⟩) z3 _) y3
  · exact B0.setCell (p := ⟨w.heap.size, 0, none⟩) (Nat.le_refl _) _

set_option maxHeartbeats 400000 in
theorem same_any (A B : Option Addr) (c d : Nat) (rows : List ByteArray) (w : World) (hA : Rd w A (strs rows)) (hB : Rd w B (strs rows)) (hn : rows.length ≤ 1000000000) :
    Calls Tryd.prog 28 #[.agg #[.slice A rows.length c], .agg #[.slice B rows.length d]] w fun e w' => e = .returned (.bool true) ∧ Below w.heap.size w w' := by
  have XA := Lib.hid (fun V (hb : Below w.heap.size w V) => (hA.ext hb).str)
  have XB := Lib.hid (fun V (hb : Below w.heap.size w V) => (hB.ext hb).str)
  obtain ⟨n, hnL⟩ : ∃ n, rows.length = n := ⟨_, rfl⟩
  rw [hnL] at hn ⊢
  have T0 : Blk ((w.alloc (.cells #[.slice A n c] 36)).alloc (.cells #[.slice B n d] 36)) w.heap.size 36 #[.slice A n c] := (Blk.made _ _ _).more _
  have T1 : Blk ((w.alloc (.cells #[.slice A n c] 36)).alloc (.cells #[.slice B n d] 36)) (w.heap.size + 1) 36 #[.slice B n d] := by
    have := Blk.made (w.alloc (.cells #[.slice A n c] 36)) 36 #[.slice B n d]
    simpa using this
  have B0 : Below w.heap.size w ((w.alloc (.cells #[.slice A n c] 36)).alloc (.cells #[.slice B n d] 36)) := Ext.more (Ext.more (Ext.refl _) _) _
  have t0 : ((n : Int) != n) = false := by simp
  have d0 := T0.cell 0
  have d1 := T1.cell 0
  simp at d0 d1
  clear hA hB
  go_enter Tryd.func28, Tryd.ntmps28
  go_wp2_with fail
  generalize (w.alloc (.cells #[.slice A n c] 36)).alloc (.cells #[.slice B n d] 36) = V at *
  clear d0 d1
  go_loopw [5] (fun i wr => ∃ k j : Nat, k ≤ n ∧ i = .int .i64 k ∧ wr = V.drewN j) (fun i _ => n - (intOf i).toNat)
  case atStart => exact ⟨0, 0, Nat.zero_le _, rfl, rfl⟩
  case round =>
    obtain ⟨k, j, hk, rfl, rfl⟩ := hrel
    have d0 := T0.cell 0
    have d1 := T1.cell 0
    simp at d0 d1
    by_cases hlt : k < n
    · have ZA := XA.out V B0
      have ZB := XB.out V B0
      obtain ⟨g, rfl, hg, hcA⟩ := ZA (by omega)
      obtain ⟨g', rfl, hg', hcB⟩ := ZB (by omega)
      have c1 := hcA k (by omega)
      have c2 := hcB k (by omega)
      clear hcA hcB ZA ZB
      generalize rows[k] = x at *
      have i0 : (0 : Int) ≤ (k : Int) := by omega
      have i1 : (k : Int) < (n : Int) := by omega
      go_wp2_with fail
      go_quiet (fail)
      go_wp2_with fail
      go_roundw
      case rel => exact ⟨k + 1, _, by omega, by go_num, rfl⟩
      case measure => simp [intOf]; omega
    · obtain rfl : k = n := by omega
      go_wp2_with fail
      go_ret
      exact ⟨rfl, Ext.drawN B0 j⟩

end Go.Proofs.YtogefmkplkddoaaDoor
