/- GreyOfPicture: the reference's. -/
import Derived.Test.YtdbelajgndclfaaSGrey
namespace Go.Proofs.Ytdbelajgndclfaa
open Go.RowKit

set_option maxRecDepth 100000 in
set_option maxHeartbeats 1000000 in
theorem greyOfS_any (A : Option Addr) (c : Nat) (rows : List ByteArray) (w : World) (h : Rd w A (strs rows)) (hn : rows.length ≤ 1000000000) :
    Calls Try.prog 28 #[.agg #[.slice A rows.length c]] w (GreyRes w (if picOk rows then greyOf rows else []) (picOk rows)) := by
  have P0 : PicAt ((w.alloc (.cells #[.slice A rows.length c] 26)).alloc (.cells #[.slice none 0 0] 39)) w.heap.size A c rows := by
    refine ⟨by simp; omega, ?_, h.ext (Ext.more (Ext.more (Ext.refl _) _) _)⟩
    exact cell_more (by simp) (cell_new _ _ _ _)
  have hB0 : Blk ((w.alloc (.cells #[.slice A rows.length c] 26)).alloc (.cells #[.slice none 0 0] 39)) (w.heap.size + 1) 39 #[.slice none 0 0] := by
    have := Blk.made (w.alloc (.cells #[.slice A rows.length c] 26)) 39 #[.slice none 0 0]
    simpa using this
  have IH := Lib.hid (isPic_any w.heap.size A c rows _ P0 hn)
  cases hok : picOk rows
  · rw [hok] at IH
    clear hok h P0
    show Calls _ _ _ _ (GreyRes w [] false)
    go_enter Try.func28, Try.ntmps28
    go_wp2_with fail
    refine IH.out.mono ?_
    rintro e w1 ⟨rfl, k, rfl⟩
    have hBk : Blk (World.drewN ((w.alloc (.cells #[.slice A rows.length c] 26)).alloc (.cells #[.slice none 0 0] 39)) k) (w.heap.size + 1) 39 #[.slice none 0 0] := hB0
    have cs := (hBk.store 0 (.slice none 0 0)).cell 0
    simp at cs
    clear hBk
    go_wp2_with fail
    refine bodyPost_ret (v := .tuple #[.agg #[.slice none 0 0], .bool false]) (by simp [results, Try.results28, go_sem, cs]) rfl ⟨none, 0, [], rfl, MatAt.nil _ _ _ _ _ (World.ownsRow_nil _ _ _ _) (fun a ha => by cases ha), ?_⟩
    exact (Ext.drawN (Ext.more (Ext.more (Ext.refl w) (.cells #[.slice A rows.length c] 26)) (.cells #[.slice none 0 0] 39)) k).setCell (p := ⟨w.heap.size + 1, 0, none⟩) (by show w.heap.size ≤ w.heap.size + 1; omega) _
  · rw [hok] at IH
    have SH := Lib.hid (fun V (hV : PicAt V w.heap.size A c rows) => greyS_any w.heap.size A c rows V hV hok)
    clear hok h
    show Calls _ _ _ _ (GreyRes w (greyOf rows) true)
    have hlen : (greyOf rows).length = rows.length := gridI_length _ _ _
    generalize greyOf rows = RR at *
    go_enter Try.func28, Try.ntmps28
    go_wp2_with fail
    refine IH.out.mono ?_
    rintro e w1 ⟨rfl, k, rfl⟩
    have P1 := P0.drewN k
    clear P0
    go_wp2_with fail
    refine (SH.out _ P1).mono ?_
    rintro e w2 ⟨A', c', vs, rfl, hM, hb⟩
    have hBk : Blk (World.drewN ((w.alloc (.cells #[.slice A rows.length c] 26)).alloc (.cells #[.slice none 0 0] 39)) k) (w.heap.size + 1) 39 #[.slice none 0 0] := hB0
    have hB1 := hBk.under hb hBk.lt
    have c1 := hB1.cell 0
    have f1 := hB1.free 0
    have cs := (hB1.store 0 (.slice A' rows.length c')).cell 0
    simp at c1 cs
    have hlt := hB1.lt
    simp only [World.heap_drewN, World.size_alloc] at hM hb
    have HM := Lib.hid hM
    have HL := Lib.hid hlen
    clear hBk hB0 P1 hM hlen
    go_wp2_with fail
    refine bodyPost_ret (v := .tuple #[.agg #[.slice A' rows.length c'], .bool true]) (by simp [results, Try.results28, go_sem, cs]) rfl ⟨A', c', vs, by rw [HL.out], ?_, ?_⟩
    · have hk := HM.out.keep ((Chg.refl (fun b => b < w.heap.size + 1 + 1) w2).store (p := ⟨w.heap.size + 1, 0, none⟩) (by show w.heap.size + 1 < w.heap.size + 1 + 1; omega) (.slice A' rows.length c')) (fun b h1 h2 h3 => by omega)
      have hz2 : (w2.setCell ⟨w.heap.size + 1, 0, none⟩ (.slice A' rows.length c')).heap.size = w2.heap.size := by simp [World.setCell]
      rw [hz2]
      exact hk.low (by omega) (Nat.le_refl _)
    · exact ((Ext.drawN (Ext.more (Ext.more (Ext.refl w) (.cells #[.slice A rows.length c] 26)) (.cells #[.slice none 0 0] 39)) k).trans (hb.mono (by omega))).setCell (p := ⟨w.heap.size + 1, 0, none⟩) (by show w.heap.size ≤ w.heap.size + 1; omega) _

end Go.Proofs.Ytdbelajgndclfaa
