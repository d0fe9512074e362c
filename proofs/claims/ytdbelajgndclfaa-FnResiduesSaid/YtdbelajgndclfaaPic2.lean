/- ResidueOf and FromResidue, of the program and of the reference. -/
import Derived.Test.YtdbelajgndclfaaSFrom
import Derived.Test.YtdbelajgndclfaaWith
namespace Go.Proofs.Ytdbelajgndclfaa
open Go.RowKit

set_option maxRecDepth 100000 in
set_option maxHeartbeats 1000000 in
theorem residueOf_any (A : Option Addr) (c : Nat) (rows : List ByteArray) (w : World) (h : Rd w A (strs rows)) (hn : rows.length ≤ 1000000000) :
    Calls Try.prog 17 #[.agg #[.slice A rows.length c]] w (PicRes w (if picOk rows then rowsTo (resL (picBits rows) (picW rows) rows.length) (picW rows) rows.length else []) (picOk rows)) := by
  have WI := Lib.hid (fun V (hV : Rd V A (strs rows)) => withImage_any A c rows 60 #[] (picW rows) rows.length (resL (picBits rows) (picW rows) rows.length) V hV hn)
  have Z := Lib.hid (fun hok : picOk rows = true => picOk_sizes hok)
  have W2 : Hid (∀ V (_ : Rd V A (strs rows)), Calls Try.prog 59 #[.agg #[.slice A rows.length c], .func (.func 60) #[] #[]] V (PicRes V (if picOk rows then rowsTo (resL (picBits rows) (picW rows) rows.length) (picW rows) rows.length else []) (picOk rows))) := by
    intro V hV
    cases hok : picOk rows
    · have := withImage_any A c rows 60 #[] 0 0 [] V hV hn (by decide) (by decide) enters_res (fun e => by rw [hok] at e; cases e)
      rw [hok] at this
      exact this
    · obtain ⟨s1, s2, s3, s4⟩ := picOk_sizes hok
      have := WI.out V hV (by omega) (by omega) enters_res (fun _ p g wr hb hm => residue_any p g _ _ _ wr hm (by omega) (by omega))
      rw [hok] at this
      exact this
  have R1 := Lib.hid (h.ext (Ext.more (Ext.more (Ext.refl w) (.cells #[.slice A rows.length c] 26)) (.cells #[.slice none 0 0] 26)))
  clear h WI Z
  generalize (if picOk rows then rowsTo (resL (picBits rows) (picW rows) rows.length) (picW rows) rows.length else []) = RR at *
  generalize picOk rows = ok at *
  go_enter Try.func17, Try.ntmps17
  go_wp2_with fail
  refine (W2.out _ R1.out).mono ?_
  rintro e w1 ⟨A', c', rfl, hown, hb⟩
  have hB0 : Blk ((w.alloc (.cells #[.slice A rows.length c] 26)).alloc (.cells #[.slice none 0 0] 26)) (w.heap.size + 1) 26 #[.slice none 0 0] := by
    have := Blk.made (w.alloc (.cells #[.slice A rows.length c] 26)) 26 #[.slice none 0 0]
    simpa using this
  have hB1 := hB0.under hb hB0.lt
  have c1 := hB1.cell 0
  have f1 := hB1.free 0
  have cs := (hB1.store 0 (.slice A' RR.length c')).cell 0
  simp at c1 cs
  have hlt := hB1.lt
  simp only [World.size_alloc] at hown hb
  go_wp2_with fail
  refine bodyPost_ret (v := .tuple #[.agg #[.slice A' RR.length c'], .bool ok]) (by simp [results, Try.results17, go_sem, cs]) rfl ⟨A', c', rfl, ?_, ?_⟩
  · exact own_base (ownsRow_setCell_below hown (a := ⟨w.heap.size + 1, 0, none⟩) (by show w.heap.size + 1 < w.heap.size + 1 + 1; omega) _) (by omega)
  · exact ((Ext.more (Ext.more (Ext.refl w) (.cells #[.slice A rows.length c] 26)) (.cells #[.slice none 0 0] 26)).trans (hb.mono (by omega))).setCell (p := ⟨w.heap.size + 1, 0, none⟩) (by show w.heap.size ≤ w.heap.size + 1; omega) _

set_option maxRecDepth 100000 in
set_option maxHeartbeats 1000000 in
theorem residueOfS_any (A : Option Addr) (c : Nat) (rows : List ByteArray) (w : World) (h : Rd w A (strs rows)) (hn : rows.length ≤ 1000000000) :
    Calls Try.prog 27 #[.agg #[.slice A rows.length c]] w (PicRes w (if picOk rows then rowsTo (resL (picBits rows) (picW rows) rows.length) (picW rows) rows.length else []) (picOk rows)) := by
  have P0 : PicAt ((w.alloc (.cells #[.slice A rows.length c] 26)).alloc (.cells #[.slice none 0 0] 26)) w.heap.size A c rows := by
    refine ⟨by simp; omega, ?_, h.ext (Ext.more (Ext.more (Ext.refl _) _) _)⟩
    exact cell_more (by simp) (cell_new _ _ _ _)
  have hB0 : Blk ((w.alloc (.cells #[.slice A rows.length c] 26)).alloc (.cells #[.slice none 0 0] 26)) (w.heap.size + 1) 26 #[.slice none 0 0] := by
    have := Blk.made (w.alloc (.cells #[.slice A rows.length c] 26)) 26 #[.slice none 0 0]
    simpa using this
  have IH := Lib.hid (isPic_any w.heap.size A c rows _ P0 hn)
  cases hok : picOk rows
  · rw [hok] at IH
    clear hok h P0
    show Calls _ _ _ _ (PicRes w [] false)
    go_enter Try.func27, Try.ntmps27
    go_wp2_with fail
    refine IH.out.mono ?_
    rintro e w1 ⟨rfl, k, rfl⟩
    have hBk : Blk (World.drewN ((w.alloc (.cells #[.slice A rows.length c] 26)).alloc (.cells #[.slice none 0 0] 26)) k) (w.heap.size + 1) 26 #[.slice none 0 0] := hB0
    have cs := (hBk.store 0 (.slice none 0 0)).cell 0
    simp at cs
    clear hBk
    go_wp2_with fail
    refine bodyPost_ret (v := .tuple #[.agg #[.slice none 0 0], .bool false]) (by simp [results, Try.results27, go_sem, cs]) rfl ⟨none, 0, rfl, World.ownsRow_nil _ _ _ _, ?_⟩
    exact (Ext.drawN (Ext.more (Ext.more (Ext.refl w) (.cells #[.slice A rows.length c] 26)) (.cells #[.slice none 0 0] 26)) k).setCell (p := ⟨w.heap.size + 1, 0, none⟩) (by show w.heap.size ≤ w.heap.size + 1; omega) _
  · rw [hok] at IH
    have SH := Lib.hid (fun V (hV : PicAt V w.heap.size A c rows) => residueS_any w.heap.size A c rows V hV hok)
    clear hok h
    show Calls _ _ _ _ (PicRes w (rowsTo (resL (picBits rows) (picW rows) rows.length) (picW rows) rows.length) true)
    have hlen : (rowsTo (resL (picBits rows) (picW rows) rows.length) (picW rows) rows.length).length = rows.length := rowsTo_length _ _ _
    generalize rowsTo (resL (picBits rows) (picW rows) rows.length) (picW rows) rows.length = RR at *
    go_enter Try.func27, Try.ntmps27
    go_wp2_with fail
    refine IH.out.mono ?_
    rintro e w1 ⟨rfl, k, rfl⟩
    have P1 := P0.drewN k
    clear P0
    go_wp2_with fail
    refine (SH.out _ P1).mono ?_
    rintro e w2 ⟨A', c', rfl, hown, hb⟩
    have hBk : Blk (World.drewN ((w.alloc (.cells #[.slice A rows.length c] 26)).alloc (.cells #[.slice none 0 0] 26)) k) (w.heap.size + 1) 26 #[.slice none 0 0] := hB0
    have hB1 := hBk.under hb hBk.lt
    have c1 := hB1.cell 0
    have f1 := hB1.free 0
    have cs := (hB1.store 0 (.slice A' rows.length c')).cell 0
    simp at c1 cs
    have hlt := hB1.lt
    simp only [World.heap_drewN, World.size_alloc] at hown hb
    clear hBk hB0 P1
    go_wp2_with fail
    refine bodyPost_ret (v := .tuple #[.agg #[.slice A' rows.length c'], .bool true]) (by simp [results, Try.results27, go_sem, cs]) rfl ⟨A', c', by rw [hlen], ?_, ?_⟩
    · rw [hlen]; exact own_base (ownsRow_setCell_below hown (a := ⟨w.heap.size + 1, 0, none⟩) (by show w.heap.size + 1 < w.heap.size + 1 + 1; omega) _) (by omega)
    · exact ((Ext.drawN (Ext.more (Ext.more (Ext.refl w) (.cells #[.slice A rows.length c] 26)) (.cells #[.slice none 0 0] 26)) k).trans (hb.mono (by omega))).setCell (p := ⟨w.heap.size + 1, 0, none⟩) (by show w.heap.size ≤ w.heap.size + 1; omega) _

set_option maxRecDepth 100000 in
set_option maxHeartbeats 1000000 in
theorem fromResidue_any (A : Option Addr) (c : Nat) (rows : List ByteArray) (w : World) (h : Rd w A (strs rows)) (hn : rows.length ≤ 1000000000) :
    Calls Try.prog 18 #[.agg #[.slice A rows.length c]] w (PicRes w (if picOk rows then rowsTo (frL (picBits rows) (picW rows) rows.length) (picW rows) rows.length else []) (picOk rows)) := by
  have WI := Lib.hid (fun V (hV : Rd V A (strs rows)) => withImage_any A c rows 61 #[] (picW rows) rows.length (frL (picBits rows) (picW rows) rows.length) V hV hn)
  have Z := Lib.hid (fun hok : picOk rows = true => picOk_sizes hok)
  have W2 : Hid (∀ V (_ : Rd V A (strs rows)), Calls Try.prog 59 #[.agg #[.slice A rows.length c], .func (.func 61) #[] #[]] V (PicRes V (if picOk rows then rowsTo (frL (picBits rows) (picW rows) rows.length) (picW rows) rows.length else []) (picOk rows))) := by
    intro V hV
    cases hok : picOk rows
    · have := withImage_any A c rows 61 #[] 0 0 [] V hV hn (by decide) (by decide) enters_from (fun e => by rw [hok] at e; cases e)
      rw [hok] at this
      exact this
    · obtain ⟨s1, s2, s3, s4⟩ := picOk_sizes hok
      have := WI.out V hV (by omega) (by omega) enters_from (fun _ p g wr hb hm => from_any p g _ _ _ wr hm (by omega) (by omega))
      rw [hok] at this
      exact this
  have R1 := Lib.hid (h.ext (Ext.more (Ext.more (Ext.refl w) (.cells #[.slice A rows.length c] 26)) (.cells #[.slice none 0 0] 26)))
  clear h WI Z
  generalize (if picOk rows then rowsTo (frL (picBits rows) (picW rows) rows.length) (picW rows) rows.length else []) = RR at *
  generalize picOk rows = ok at *
  go_enter Try.func18, Try.ntmps18
  go_wp2_with fail
  refine (W2.out _ R1.out).mono ?_
  rintro e w1 ⟨A', c', rfl, hown, hb⟩
  have hB0 : Blk ((w.alloc (.cells #[.slice A rows.length c] 26)).alloc (.cells #[.slice none 0 0] 26)) (w.heap.size + 1) 26 #[.slice none 0 0] := by
    have := Blk.made (w.alloc (.cells #[.slice A rows.length c] 26)) 26 #[.slice none 0 0]
    simpa using this
  have hB1 := hB0.under hb hB0.lt
  have c1 := hB1.cell 0
  have f1 := hB1.free 0
  have cs := (hB1.store 0 (.slice A' RR.length c')).cell 0
  simp at c1 cs
  have hlt := hB1.lt
  simp only [World.size_alloc] at hown hb
  go_wp2_with fail
  refine bodyPost_ret (v := .tuple #[.agg #[.slice A' RR.length c'], .bool ok]) (by simp [results, Try.results18, go_sem, cs]) rfl ⟨A', c', rfl, ?_, ?_⟩
  · exact own_base (ownsRow_setCell_below hown (a := ⟨w.heap.size + 1, 0, none⟩) (by show w.heap.size + 1 < w.heap.size + 1 + 1; omega) _) (by omega)
  · exact ((Ext.more (Ext.more (Ext.refl w) (.cells #[.slice A rows.length c] 26)) (.cells #[.slice none 0 0] 26)).trans (hb.mono (by omega))).setCell (p := ⟨w.heap.size + 1, 0, none⟩) (by show w.heap.size ≤ w.heap.size + 1; omega) _

set_option maxRecDepth 100000 in
set_option maxHeartbeats 1000000 in
theorem fromResidueS_any (A : Option Addr) (c : Nat) (rows : List ByteArray) (w : World) (h : Rd w A (strs rows)) (hn : rows.length ≤ 1000000000) :
    Calls Try.prog 22 #[.agg #[.slice A rows.length c]] w (PicRes w (if picOk rows then rowsTo (frL (picBits rows) (picW rows) rows.length) (picW rows) rows.length else []) (picOk rows)) := by
  have P0 : PicAt ((w.alloc (.cells #[.slice A rows.length c] 26)).alloc (.cells #[.slice none 0 0] 26)) w.heap.size A c rows := by
    refine ⟨by simp; omega, ?_, h.ext (Ext.more (Ext.more (Ext.refl _) _) _)⟩
    exact cell_more (by simp) (cell_new _ _ _ _)
  have hB0 : Blk ((w.alloc (.cells #[.slice A rows.length c] 26)).alloc (.cells #[.slice none 0 0] 26)) (w.heap.size + 1) 26 #[.slice none 0 0] := by
    have := Blk.made (w.alloc (.cells #[.slice A rows.length c] 26)) 26 #[.slice none 0 0]
    simpa using this
  have IH := Lib.hid (isPic_any w.heap.size A c rows _ P0 hn)
  cases hok : picOk rows
  · rw [hok] at IH
    clear hok h P0
    show Calls _ _ _ _ (PicRes w [] false)
    go_enter Try.func22, Try.ntmps22
    go_wp2_with fail
    refine IH.out.mono ?_
    rintro e w1 ⟨rfl, k, rfl⟩
    have hBk : Blk (World.drewN ((w.alloc (.cells #[.slice A rows.length c] 26)).alloc (.cells #[.slice none 0 0] 26)) k) (w.heap.size + 1) 26 #[.slice none 0 0] := hB0
    have cs := (hBk.store 0 (.slice none 0 0)).cell 0
    simp at cs
    clear hBk
    go_wp2_with fail
    refine bodyPost_ret (v := .tuple #[.agg #[.slice none 0 0], .bool false]) (by simp [results, Try.results22, go_sem, cs]) rfl ⟨none, 0, rfl, World.ownsRow_nil _ _ _ _, ?_⟩
    exact (Ext.drawN (Ext.more (Ext.more (Ext.refl w) (.cells #[.slice A rows.length c] 26)) (.cells #[.slice none 0 0] 26)) k).setCell (p := ⟨w.heap.size + 1, 0, none⟩) (by show w.heap.size ≤ w.heap.size + 1; omega) _
  · rw [hok] at IH
    have SH := Lib.hid (fun V (hV : PicAt V w.heap.size A c rows) => fromS_any w.heap.size A c rows V hV hok)
    clear hok h
    show Calls _ _ _ _ (PicRes w (rowsTo (frL (picBits rows) (picW rows) rows.length) (picW rows) rows.length) true)
    have hlen : (rowsTo (frL (picBits rows) (picW rows) rows.length) (picW rows) rows.length).length = rows.length := rowsTo_length _ _ _
    generalize rowsTo (frL (picBits rows) (picW rows) rows.length) (picW rows) rows.length = RR at *
    go_enter Try.func22, Try.ntmps22
    go_wp2_with fail
    refine IH.out.mono ?_
    rintro e w1 ⟨rfl, k, rfl⟩
    have P1 := P0.drewN k
    clear P0
    go_wp2_with fail
    refine (SH.out _ P1).mono ?_
    rintro e w2 ⟨A', c', rfl, hown, hb⟩
    have hBk : Blk (World.drewN ((w.alloc (.cells #[.slice A rows.length c] 26)).alloc (.cells #[.slice none 0 0] 26)) k) (w.heap.size + 1) 26 #[.slice none 0 0] := hB0
    have hB1 := hBk.under hb hBk.lt
    have c1 := hB1.cell 0
    have f1 := hB1.free 0
    have cs := (hB1.store 0 (.slice A' rows.length c')).cell 0
    simp at c1 cs
    have hlt := hB1.lt
    simp only [World.heap_drewN, World.size_alloc] at hown hb
    clear hBk hB0 P1
    go_wp2_with fail
    refine bodyPost_ret (v := .tuple #[.agg #[.slice A' rows.length c'], .bool true]) (by simp [results, Try.results22, go_sem, cs]) rfl ⟨A', c', by rw [hlen], ?_, ?_⟩
    · rw [hlen]; exact own_base (ownsRow_setCell_below hown (a := ⟨w.heap.size + 1, 0, none⟩) (by show w.heap.size + 1 < w.heap.size + 1 + 1; omega) _) (by omega)
    · exact ((Ext.drawN (Ext.more (Ext.more (Ext.refl w) (.cells #[.slice A rows.length c] 26)) (.cells #[.slice none 0 0] 26)) k).trans (hb.mono (by omega))).setCell (p := ⟨w.heap.size + 1, 0, none⟩) (by show w.heap.size ≤ w.heap.size + 1; omega) _

end Go.Proofs.Ytdbelajgndclfaa
