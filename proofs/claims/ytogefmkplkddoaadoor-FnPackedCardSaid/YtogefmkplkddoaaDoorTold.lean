/- Images told as pictures. -/
import Derived.Test.YtogefmkplkddoaaDoorImgC
import Derived.Test.YtogefmkplkddoaaDoorBts
namespace Go.Proofs.YtogefmkplkddoaaDoor
open Go.RowKit

def strs (l : List ByteArray) : List Value := l.map Value.string
/-- The bytes of a row, the first k of them. -/
def rowB (L : List Bool) (W y k : Nat) : List UInt8 := (List.range k).map fun x => if L.getD (y * W + x) false then 35 else 46
theorem rowB_succ (L : List Bool) (W y k : Nat) : rowB L W y (k + 1) = rowB L W y k ++ [if L.getD (y * W + k) false then 35 else 46] := by simp [rowB, List.range_succ]
theorem rowB_length (L : List Bool) (W y k : Nat) : (rowB L W y k).length = k := by simp [rowB]
def rowS (L : List Bool) (W y : Nat) : ByteArray := ⟨(rowB L W y W).toArray⟩
def rowsTo (L : List Bool) (W k : Nat) : List ByteArray := (List.range k).map (rowS L W)
theorem rowsTo_succ (L : List Bool) (W k : Nat) : rowsTo L W (k + 1) = rowsTo L W k ++ [rowS L W k] := by simp [rowsTo, List.range_succ]
theorem rowsTo_length (L : List Bool) (W k : Nat) : (rowsTo L W k).length = k := by simp [rowsTo]

theorem strT : ElemT 34 9 (.string ByteArray.empty) 1 16 := ⟨Tryd.underlying34, by kernel_rfl, rfl, by decide, by decide⟩

theorem bit_in {L : List Bool} {W H x y : Nat} (hx : x < W) (hy : y < H) : bit L W H x y = L.getD (y * W + x) false := by
  have e : ((y : Int) * W + x).toNat = y * W + x := by
    rw [← Int.natCast_mul]; omega
  simp [bit, e, hx, hy]

set_option maxRecDepth 100000 in
set_option maxHeartbeats 1000000 in
theorem told_any (p g W H : Nat) (L : List Bool) (w : World) (h : Img w p g W H L) (hW : W ≤ 1000) (hH : H ≤ 1000) :
    Calls Tryd.prog 53 #[.pointer (some ⟨p, 0, none⟩)] w fun e w' => ∃ A c, e = .returned (.agg #[.slice A H c]) ∧
      w'.ownsRow w.heap.size 9 1 (.slice A H c) H (strs (rowsTo L W H)) ∧ Below w.heap.size w w' := by
  have c1 := h.hdr.cell 1
  simp at c1
  have hp := h.hdr.lt
  go_enter Tryd.func53, Tryd.ntmps53
  go_wp2_with fail
  obtain ⟨R, hR⟩ : ∃ R, R = w.heap.size := ⟨_, rfl⟩
  have I0 : Blk ((w.alloc (.cells #[.slice none 0 0] 36)).alloc (.cells #[.slice none 0 0] 36)) w.heap.size 36 #[.slice none 0 0] := (Blk.made _ _ _).more _
  have I1 : Blk ((w.alloc (.cells #[.slice none 0 0] 36)).alloc (.cells #[.slice none 0 0] 36)) (w.heap.size + 1) 36 #[.slice none 0 0] := by
    have := Blk.made (w.alloc (.cells #[.slice none 0 0] 36)) 36 #[.slice none 0 0]
    simpa using this
  have I2 : Below w.heap.size w ((w.alloc (.cells #[.slice none 0 0] 36)).alloc (.cells #[.slice none 0 0] 36)) := Ext.more (Ext.more (Ext.refl _) _) _
  have himg := h.ext I2
  clear c1
  rw [← hR] at hp I0 I1 I2 ⊢
  have HR := Lib.hid hR
  clear hR
  go_loopw [12] (fun i wr => ∃ (y c : Nat) (A : Option Addr), y ≤ H ∧ i = .int .i64 y ∧ Blk wr R 36 #[.slice none 0 0] ∧ Blk wr (R + 1) 36 #[.slice A y c] ∧ wr.ownsRow (R + 2) 9 1 (.slice A y c) y (strs (rowsTo L W y)) ∧ Img wr p g W H L ∧ Below R w wr) (fun i _ => H - (intOf i).toNat)
  case atStart => exact ⟨0, 0, none, Nat.zero_le _, rfl, I0, I1, World.ownsRow_nil _ _ _ _, himg, I2⟩
  case round =>
    obtain ⟨y, c, A, hy, rfl, hB0, hB1, hown, hm, hb⟩ := hrel
    clear I0 I1 I2 himg
    by_cases hlt : y < H
    · have c0 := hm.hdr.cell 0
      simp at c0
      have hplt := hm.hdr.lt
      obtain ⟨wo, rfl⟩ : ∃ wo : World, wo = wr := ⟨_, rfl⟩
      have hrow0 := World.ownsRow_lit (e := 5) (size := 1) wo #[] 0 (Nat.le_refl _) (by decide) rfl
      go_wp2_with fail
      clear c0
      go_loopw [5, 20] (fun v i wr => ∃ (x gb cb : Nat), x ≤ W ∧ i = .int .i64 x ∧ v = .slice (some ⟨gb, 0, none⟩) x cb ∧ wr.ownsRow wo.heap.size 5 1 (.slice (some ⟨gb, 0, none⟩) x cb) x (u8s (rowB L W y x)) ∧ Below wo.heap.size wo wr) (fun _ i _ => W - (intOf i).toNat)
      case atStart => exact ⟨0, _, 0, Nat.zero_le _, rfl, rfl, hrow0, Ext.more (Ext.refl _) _⟩
      case round =>
        obtain ⟨x, gb, cb, hx, rfl, rfl, hrow, hb2⟩ := hrel
        clear hrow0
        by_cases hxl : x < W
        · have G := Lib.hid (get_any p g W H L x y wr (hm.ext hb2) hW hH)
          rw [bit_in hxl hlt] at G
          have hsz := hb2.size
          have RB := Lib.hid (rowB_succ L W y x)
          cases hbt : L.getD (y * W + x) false
          · rw [hbt] at G RB
            clear hbt
            go_wp2_with fail
            refine G.out.mono ?_
            rintro e w' ⟨rfl, kk, rfl⟩
            go_wp2_with (at_builtin; refine wpList_app byteT (by rfl) _ _ (by rfl) wo.heap.size (.slice (some ⟨gb, 0, none⟩) x cb) x (u8s (rowB L W y x)) (by rfl) (hrow.alloc _) wr.heap.size #[.int .u8 46] (by rfl) (heap_alloc_new _ _) rfl (by simp [Value.oneCell']) (by omega) (by simp; omega) ?_; intro g3 cap3 w3 hown3 hgrow3 hat3 hlt3)
            go_roundw
            case rel =>
              refine ⟨x + 1, g3, cap3, by omega, by go_num, rfl, ?_, ?_⟩
              · rw [RB.out]; simpa [u8s] using hown3
              · exact (Ext.more (Ext.drawN hb2 kk) _).grown hgrow3 (by simp; omega) (by intro z hz; have := (hrow.lt gb rfl).1; simp [Value.ownBlock] at hz; omega)
            case measure => simp [intOf]; omega
          · rw [hbt] at G RB
            clear hbt
            go_wp2_with fail
            refine G.out.mono ?_
            rintro e w' ⟨rfl, kk, rfl⟩
            go_wp2_with (at_builtin; refine wpList_app byteT (by rfl) _ _ (by rfl) wo.heap.size (.slice (some ⟨gb, 0, none⟩) x cb) x (u8s (rowB L W y x)) (by rfl) (hrow.alloc _) wr.heap.size #[.int .u8 35] (by rfl) (heap_alloc_new _ _) rfl (by simp [Value.oneCell']) (by omega) (by simp; omega) ?_; intro g3 cap3 w3 hown3 hgrow3 hat3 hlt3)
            go_roundw
            case rel =>
              refine ⟨x + 1, g3, cap3, by omega, by go_num, rfl, ?_, ?_⟩
              · rw [RB.out]; simpa [u8s] using hown3
              · exact (Ext.more (Ext.drawN hb2 kk) _).grown hgrow3 (by simp; omega) (by intro z hz; have := (hrow.lt gb rfl).1; simp [Value.ownBlock] at hz; omega)
            case measure => simp [intOf]; omega
        · obtain rfl : x = W := by omega
          have hB1' := hB1.under hb2 hB1.lt
          have c0 := hB1'.cell 0
          have f0 := hB1'.free 0
          simp at c0
          have hown' := own_ext hb2 hown
          have hRlt := hB1'.lt
          have hcv : (convert 30 9 (.slice (some ⟨gb, 0, none⟩) x cb)).run Tryd.prog wr = .ok (.string (rowS L x y)) wr := str_of_own hrow (rowB_length _ _ _ _)
          have hRwo := hB0.lt
          have hR1 : ∀ z, (Value.slice A y c).ownBlock = some z → R + 2 ≤ z := fun z hz => (hown'.lt z hz).1
          go_wp2_with (at_builtin; refine wpList_app strT (by rfl) _ _ (by rfl) (R + 2) (.slice A y c) y (strs (rowsTo L x y)) (by rfl) (hown'.alloc _) wr.heap.size #[.string (rowS L x y)] (by rfl) (heap_alloc_new _ _) rfl (by simp [Value.oneCell']) (by omega) (by simp; omega) ?_; intro g3 cap3 w3 hown3 hgrow3 hat3 hlt3; have hB3 := (hB1'.more (.cells #[.string (rowS L x y)] 9)).by_grown hgrow3 (fun e => by have := hR1 _ e.symm; omega); have c3 := hB3.cell 0; have f3 := hB3.free 0; simp at c3)
          have hB0' := ((hB0.under hb2 hB0.lt).more (.cells #[.string (rowS L x y)] 9)).by_grown hgrow3 (fun e => by have := hR1 _ e.symm; omega)
          have hm3 : Img w3 p g x H L := by
            have h2 := hm.ext hb2
            refine ⟨(h2.hdr.more (.cells #[.string (rowS L x y)] 9)).by_grown hgrow3 (fun e => ?_), (h2.bits.more (.cells #[.string (rowS L x y)] 9)).by_grown hgrow3 (fun e => ?_), h2.len⟩
            · have := hR1 _ e.symm; omega
            · exact own_blk_ne hown' h2.bits (by decide) e.symm
          have hb3 : Below R w w3 := (((hb.trans (hb2.mono (by omega))).alloc (by omega) _).grown hgrow3 (by simp; omega) (fun z hz => by have := hR1 z hz; omega))
          go_roundw
          case rel =>
            refine ⟨y + 1, cap3, some ⟨g3, 0, none⟩, by omega, by go_num, hB0'.apart (p := ⟨R + 1, 0, none⟩) (by simp) _, hB3.store 0 _, ?_, ⟨hm3.hdr.apart (p := ⟨R + 1, 0, none⟩) (by show p ≠ R + 1; omega) _, hm3.bits.apart (p := ⟨R + 1, 0, none⟩) (hm3.bits.ne hB3 (by decide)) _, hm3.len⟩, hb3.setCell (p := ⟨R + 1, 0, none⟩) (by show R ≤ R + 1; omega) _⟩
            rw [rowsTo_succ]
            exact ownsRow_setCell_below (by simpa [strs] using hown3) (by show R + 1 < R + 2; omega) _
          case measure => simp [intOf]; omega
    · obtain rfl : y = H := by omega
      have c1 := hB1.cell 0
      have c0 := hB0.cell 0
      have f0 := hB0.free 0
      simp at c1 c0
      go_wp2_with fail
      have cs := (hB0.store 0 (.slice A y c)).cell 0
      simp at cs
      refine bodyPost_ret (v := .agg #[.slice A y c]) (by simp [results, Tryd.results53, go_sem, cs]) rfl ⟨A, c, rfl, ?_, ?_⟩
      · rw [← HR.out]; exact own_base (ownsRow_setCell_below hown (a := ⟨R, 0, none⟩) (by show R < R + 2; omega) _) (by omega)
      · rw [← HR.out]; exact hb.setCell (p := ⟨R, 0, none⟩) (Nat.le_refl _) _
end Go.Proofs.YtogefmkplkddoaaDoor
