/- ResidueOf and FromResidue, of the program and of the reference. The law FnResidues, walked. -/
import Derived.Test.YtdbelajgndclfaaSFrom
import Derived.Test.YtdbelajgndclfaaWith
import Derived.Test.YtdbelajgndclfaaR8
namespace Go.Proofs.Ytdbelajgndclfaa
open Go.RowKit

set_option maxRecDepth 100000 in
set_option maxHeartbeats 1000000 in
theorem residueOf_any (A : Option Addr) (c : Nat) (rows : List ByteArray) (w : World) (h : Rd w A (strs rows)) (hn : rows.length ≤ 1000000000) :
    Calls Try.prog 17 #[.agg #[.slice A rows.length c]] w (PicRes w (if picOk rows then rowsTo (resL (picBits rows) (picW rows) rows.length) (picW rows) rows.length else []) (picOk rows)) := by
  have WI := Lib.hid (fun V (hV : Rd V A (strs rows)) => withImage_any A c rows 60 #[] (picW rows) rows.length (resL (picBits rows) (picW rows) rows.length) V hV hn)
  have Z := Lib.hid (fun hok : picOk rows = true => picOk_sizes hok)
  have W2 : Hid (∀ V (_ : Rd V A (strs rows)), Calls Try.prog 59 #[.agg #[.slice A rows.length c], .func (.func 60) #[] #[]] V (PicRes V (if picOk rows then rowsTo (resL (picBits rows) (picW rows) rows.length) (picW rows) rows.length else []) (picOk rows))) := by
    intro V hV
    cases hok : picOk rows
    · have := withImage_any A c rows 60 #[] 0 0 [] V hV hn (by decide) (by decide) enters_res (fun e => by rw [hok] at e; cases e)
      rw [hok] at this
      exact this
    · obtain ⟨s1, s2, s3, s4⟩ := picOk_sizes hok
      have := WI.out V hV (by omega) (by omega) enters_res (fun _ p g wr hb hm => residue_any p g _ _ _ wr hm (by omega) (by omega))
      rw [hok] at this
      exact this
  have R1 := Lib.hid (h.ext (Ext.more (Ext.more (Ext.refl w) (.cells #[.slice A rows.length c] 26)) (.cells #[.slice none 0 0] 26)))
  clear h WI Z
  generalize (if picOk rows then rowsTo (resL (picBits rows) (picW rows) rows.length) (picW rows) rows.length else []) = RR at *
  generalize picOk rows = ok at *
  go_enter Try.func17, Try.ntmps17
  go_wp2_with fail
  refine (W2.out _ R1.out).mono ?_
  rintro e w1 ⟨A', c', rfl, hown, hb⟩
  have hB0 : Blk ((w.alloc (.cells #[.slice A rows.length c] 26)).alloc (.cells #[.slice none 0 0] 26)) (w.heap.size + 1) 26 #[.slice none 0 0] := by
    have := Blk.made (w.alloc (.cells #[.slice A rows.length c] 26)) 26 #[.slice none 0 0]
    simpa using this
  have hB1 := hB0.under hb hB0.lt
  have c1 := hB1.cell 0
  have f1 := hB1.free 0
  have cs := (hB1.store 0 (.slice A' RR.length c')).cell 0
  simp at c1 cs
  have hlt := hB1.lt
  simp only [World.size_alloc] at hown hb
  go_wp2_with fail
  refine bodyPost_ret (v := .tuple #[.agg #[.slice A' RR.length c'], .bool ok]) (by simp [results, Try.results17, go_sem, cs]) rfl ⟨A', c', rfl, ?_, ?_⟩
  · exact own_base (ownsRow_setCell_below hown (a := ⟨w.heap.size + 1, 0, none⟩) (by show w.heap.size + 1 < w.heap.size + 1 + 1; omega) _) (by omega)
  · exact ((Ext.more (Ext.more (Ext.refl w) (.cells #[.slice A rows.length c] 26)) (.cells #[.slice none 0 0] 26)).trans (hb.mono (by omega))).setCell (p := ⟨w.heap.size + 1, 0, none⟩) (by show w.heap.size ≤ w.heap.size + 1; omega) _

set_option maxRecDepth 100000 in
set_option maxHeartbeats 1000000 in
theorem residueOfS_any (A : Option Addr) (c : Nat) (rows : List ByteArray) (w : World) (h : Rd w A (strs rows)) (hn : rows.length ≤ 1000000000) :
    Calls Try.prog 27 #[.agg #[.slice A rows.length c]] w (PicRes w (if picOk rows then rowsTo (resL (picBits rows) (picW rows) rows.length) (picW rows) rows.length else []) (picOk rows)) := by
  have P0 : PicAt ((w.alloc (.cells #[.slice A rows.length c] 26)).alloc (.cells #[.slice none 0 0] 26)) w.heap.size A c rows := by
    refine ⟨by simp; omega, ?_, h.ext (Ext.more (Ext.more (Ext.refl _) _) _)⟩
    exact cell_more (by simp) (cell_new _ _ _ _)
  have hB0 : Blk ((w.alloc (.cells #[.slice A rows.length c] 26)).alloc (.cells #[.slice none 0 0] 26)) (w.heap.size + 1) 26 #[.slice none 0 0] := by
    have := Blk.made (w.alloc (.cells #[.slice A rows.length c] 26)) 26 #[.slice none 0 0]
    simpa using this
  have IH := Lib.hid (isPic_any w.heap.size A c rows _ P0 hn)
  cases hok : picOk rows
  · rw [hok] at IH
    clear hok h P0
    show Calls _ _ _ _ (PicRes w [] false)
    go_enter Try.func27, Try.ntmps27
    go_wp2_with fail
    refine IH.out.mono ?_
    rintro e w1 ⟨rfl, k, rfl⟩
    have hBk : Blk (World.drewN ((w.alloc (.cells #[.slice A rows.length c] 26)).alloc (.cells #[.slice none 0 0] 26)) k) (w.heap.size + 1) 26 #[.slice none 0 0] := hB0
    have cs := (hBk.store 0 (.slice none 0 0)).cell 0
    simp at cs
    clear hBk
    go_wp2_with fail
    refine bodyPost_ret (v := .tuple #[.agg #[.slice none 0 0], .bool false]) (by simp [results, Try.results27, go_sem, cs]) rfl ⟨none, 0, rfl, World.ownsRow_nil _ _ _ _, ?_⟩
    exact (Ext.drawN (Ext.more (Ext.more (Ext.refl w) (.cells #[.slice A rows.length c] 26)) (.cells #[.slice none 0 0] 26)) k).setCell (p := ⟨w.heap.size + 1, 0, none⟩) (by show w.heap.size ≤ w.heap.size + 1; omega) _
  · rw [hok] at IH
    have SH := Lib.hid (fun V (hV : PicAt V w.heap.size A c rows) => residueS_any w.heap.size A c rows V hV hok)
    clear hok h
    show Calls _ _ _ _ (PicRes w (rowsTo (resL (picBits rows) (picW rows) rows.length) (picW rows) rows.length) true)
    have hlen : (rowsTo (resL (picBits rows) (picW rows) rows.length) (picW rows) rows.length).length = rows.length := rowsTo_length _ _ _
    generalize rowsTo (resL (picBits rows) (picW rows) rows.length) (picW rows) rows.length = RR at *
    go_enter Try.func27, Try.ntmps27
    go_wp2_with fail
    refine IH.out.mono ?_
    rintro e w1 ⟨rfl, k, rfl⟩
    have P1 := P0.drewN k
    clear P0
    go_wp2_with fail
    refine (SH.out _ P1).mono ?_
    rintro e w2 ⟨A', c', rfl, hown, hb⟩
    have hBk : Blk (World.drewN ((w.alloc (.cells #[.slice A rows.length c] 26)).alloc (.cells #[.slice none 0 0] 26)) k) (w.heap.size + 1) 26 #[.slice none 0 0] := hB0
    have hB1 := hBk.under hb hBk.lt
    have c1 := hB1.cell 0
    have f1 := hB1.free 0
    have cs := (hB1.store 0 (.slice A' rows.length c')).cell 0
    simp at c1 cs
    have hlt := hB1.lt
    simp only [World.heap_drewN, World.size_alloc] at hown hb
    clear hBk hB0 P1
    go_wp2_with fail
    refine bodyPost_ret (v := .tuple #[.agg #[.slice A' rows.length c'], .bool true]) (by simp [results, Try.results27, go_sem, cs]) rfl ⟨A', c', by rw [hlen], ?_, ?_⟩
    · rw [hlen]; exact own_base (ownsRow_setCell_below hown (a := ⟨w.heap.size + 1, 0, none⟩) (by show w.heap.size + 1 < w.heap.size + 1 + 1; omega) _) (by omega)
    · exact ((Ext.drawN (Ext.more (Ext.more (Ext.refl w) (.cells #[.slice A rows.length c] 26)) (.cells #[.slice none 0 0] 26)) k).trans (hb.mono (by omega))).setCell (p := ⟨w.heap.size + 1, 0, none⟩) (by show w.heap.size ≤ w.heap.size + 1; omega) _

set_option maxRecDepth 100000 in
set_option maxHeartbeats 1000000 in
theorem fromResidue_any (A : Option Addr) (c : Nat) (rows : List ByteArray) (w : World) (h : Rd w A (strs rows)) (hn : rows.length ≤ 1000000000) :
    Calls Try.prog 18 #[.agg #[.slice A rows.length c]] w (PicRes w (if picOk rows then rowsTo (frL (picBits rows) (picW rows) rows.length) (picW rows) rows.length else []) (picOk rows)) := by
  have WI := Lib.hid (fun V (hV : Rd V A (strs rows)) => withImage_any A c rows 61 #[] (picW rows) rows.length (frL (picBits rows) (picW rows) rows.length) V hV hn)
  have Z := Lib.hid (fun hok : picOk rows = true => picOk_sizes hok)
  have W2 : Hid (∀ V (_ : Rd V A (strs rows)), Calls Try.prog 59 #[.agg #[.slice A rows.length c], .func (.func 61) #[] #[]] V (PicRes V (if picOk rows then rowsTo (frL (picBits rows) (picW rows) rows.length) (picW rows) rows.length else []) (picOk rows))) := by
    intro V hV
    cases hok : picOk rows
    · have := withImage_any A c rows 61 #[] 0 0 [] V hV hn (by decide) (by decide) enters_from (fun e => by rw [hok] at e; cases e)
      rw [hok] at this
      exact this
    · obtain ⟨s1, s2, s3, s4⟩ := picOk_sizes hok
      have := WI.out V hV (by omega) (by omega) enters_from (fun _ p g wr hb hm => from_any p g _ _ _ wr hm (by omega) (by omega))
      rw [hok] at this
      exact this
  have R1 := Lib.hid (h.ext (Ext.more (Ext.more (Ext.refl w) (.cells #[.slice A rows.length c] 26)) (.cells #[.slice none 0 0] 26)))
  clear h WI Z
  generalize (if picOk rows then rowsTo (frL (picBits rows) (picW rows) rows.length) (picW rows) rows.length else []) = RR at *
  generalize picOk rows = ok at *
  go_enter Try.func18, Try.ntmps18
  go_wp2_with fail
  refine (W2.out _ R1.out).mono ?_
  rintro e w1 ⟨A', c', rfl, hown, hb⟩
  have hB0 : Blk ((w.alloc (.cells #[.slice A rows.length c] 26)).alloc (.cells #[.slice none 0 0] 26)) (w.heap.size + 1) 26 #[.slice none 0 0] := by
    have := Blk.made (w.alloc (.cells #[.slice A rows.length c] 26)) 26 #[.slice none 0 0]
    simpa using this
  have hB1 := hB0.under hb hB0.lt
  have c1 := hB1.cell 0
  have f1 := hB1.free 0
  have cs := (hB1.store 0 (.slice A' RR.length c')).cell 0
  simp at c1 cs
  have hlt := hB1.lt
  simp only [World.size_alloc] at hown hb
  go_wp2_with fail
  refine bodyPost_ret (v := .tuple #[.agg #[.slice A' RR.length c'], .bool ok]) (by simp [results, Try.results18, go_sem, cs]) rfl ⟨A', c', rfl, ?_, ?_⟩
  · exact own_base (ownsRow_setCell_below hown (a := ⟨w.heap.size + 1, 0, none⟩) (by show w.heap.size + 1 < w.heap.size + 1 + 1; omega) _) (by omega)
  · exact ((Ext.more (Ext.more (Ext.refl w) (.cells #[.slice A rows.length c] 26)) (.cells #[.slice none 0 0] 26)).trans (hb.mono (by omega))).setCell (p := ⟨w.heap.size + 1, 0, none⟩) (by show w.heap.size ≤ w.heap.size + 1; omega) _

set_option maxRecDepth 100000 in
set_option maxHeartbeats 1000000 in
theorem fromResidueS_any (A : Option Addr) (c : Nat) (rows : List ByteArray) (w : World) (h : Rd w A (strs rows)) (hn : rows.length ≤ 1000000000) :
    Calls Try.prog 22 #[.agg #[.slice A rows.length c]] w (PicRes w (if picOk rows then rowsTo (frL (picBits rows) (picW rows) rows.length) (picW rows) rows.length else []) (picOk rows)) := by
  have P0 : PicAt ((w.alloc (.cells #[.slice A rows.length c] 26)).alloc (.cells #[.slice none 0 0] 26)) w.heap.size A c rows := by
    refine ⟨by simp; omega, ?_, h.ext (Ext.more (Ext.more (Ext.refl _) _) _)⟩
    exact cell_more (by simp) (cell_new _ _ _ _)
  have hB0 : Blk ((w.alloc (.cells #[.slice A rows.length c] 26)).alloc (.cells #[.slice none 0 0] 26)) (w.heap.size + 1) 26 #[.slice none 0 0] := by
    have := Blk.made (w.alloc (.cells #[.slice A rows.length c] 26)) 26 #[.slice none 0 0]
    simpa using this
  have IH := Lib.hid (isPic_any w.heap.size A c rows _ P0 hn)
  cases hok : picOk rows
  · rw [hok] at IH
    clear hok h P0
    show Calls _ _ _ _ (PicRes w [] false)
    go_enter Try.func22, Try.ntmps22
    go_wp2_with fail
    refine IH.out.mono ?_
    rintro e w1 ⟨rfl, k, rfl⟩
    have hBk : Blk (World.drewN ((w.alloc (.cells #[.slice A rows.length c] 26)).alloc (.cells #[.slice none 0 0] 26)) k) (w.heap.size + 1) 26 #[.slice none 0 0] := hB0
    have cs := (hBk.store 0 (.slice none 0 0)).cell 0
    simp at cs
    clear hBk
    go_wp2_with fail
    refine bodyPost_ret (v := .tuple #[.agg #[.slice none 0 0], .bool false]) (by simp [results, Try.results22, go_sem, cs]) rfl ⟨none, 0, rfl, World.ownsRow_nil _ _ _ _, ?_⟩
    exact (Ext.drawN (Ext.more (Ext.more (Ext.refl w) (.cells #[.slice A rows.length c] 26)) (.cells #[.slice none 0 0] 26)) k).setCell (p := ⟨w.heap.size + 1, 0, none⟩) (by show w.heap.size ≤ w.heap.size + 1; omega) _
  · rw [hok] at IH
    have SH := Lib.hid (fun V (hV : PicAt V w.heap.size A c rows) => fromS_any w.heap.size A c rows V hV hok)
    clear hok h
    show Calls _ _ _ _ (PicRes w (rowsTo (frL (picBits rows) (picW rows) rows.length) (picW rows) rows.length) true)
    have hlen : (rowsTo (frL (picBits rows) (picW rows) rows.length) (picW rows) rows.length).length = rows.length := rowsTo_length _ _ _
    generalize rowsTo (frL (picBits rows) (picW rows) rows.length) (picW rows) rows.length = RR at *
    go_enter Try.func22, Try.ntmps22
    go_wp2_with fail
    refine IH.out.mono ?_
    rintro e w1 ⟨rfl, k, rfl⟩
    have P1 := P0.drewN k
    clear P0
    go_wp2_with fail
    refine (SH.out _ P1).mono ?_
    rintro e w2 ⟨A', c', rfl, hown, hb⟩
    have hBk : Blk (World.drewN ((w.alloc (.cells #[.slice A rows.length c] 26)).alloc (.cells #[.slice none 0 0] 26)) k) (w.heap.size + 1) 26 #[.slice none 0 0] := hB0
    have hB1 := hBk.under hb hBk.lt
    have c1 := hB1.cell 0
    have f1 := hB1.free 0
    have cs := (hB1.store 0 (.slice A' rows.length c')).cell 0
    simp at c1 cs
    have hlt := hB1.lt
    simp only [World.heap_drewN, World.size_alloc] at hown hb
    clear hBk hB0 P1
    go_wp2_with fail
    refine bodyPost_ret (v := .tuple #[.agg #[.slice A' rows.length c'], .bool true]) (by simp [results, Try.results22, go_sem, cs]) rfl ⟨A', c', by rw [hlen], ?_, ?_⟩
    · rw [hlen]; exact own_base (ownsRow_setCell_below hown (a := ⟨w.heap.size + 1, 0, none⟩) (by show w.heap.size + 1 < w.heap.size + 1 + 1; omega) _) (by omega)
    · exact ((Ext.drawN (Ext.more (Ext.more (Ext.refl w) (.cells #[.slice A rows.length c] 26)) (.cells #[.slice none 0 0] 26)) k).trans (hb.mono (by omega))).setCell (p := ⟨w.heap.size + 1, 0, none⟩) (by show w.heap.size ≤ w.heap.size + 1; omega) _

end Go.Proofs.Ytdbelajgndclfaa

namespace Go.Proofs.Ytdbelajgndclfaa
open Go.RowKit

/-- A call has returned a picture of the law's own and yes. -/
def PicYes (w : World) (W H : Nat) (L : List Bool) (e : Ending) (w' : World) : Prop :=
  ∃ A c, e = .returned (.tuple #[.agg #[.slice A H c], .bool true]) ∧ w'.ownsRow w.heap.size 9 1 (.slice A H c) H (strs (rowsTo L W H)) ∧ Below w.heap.size w w'
theorem PicYes.of {w w' : World} {W H : Nat} {L : List Bool} {e : Ending} (h : PicRes w (rowsTo L W H) true e w') : PicYes w W H L e w' := by
  obtain ⟨A, c, h1, h2, h3⟩ := h
  rw [rowsTo_length] at h1 h2
  exact ⟨A, c, h1, h2, h3⟩
theorem yes_res {A : Option Addr} {c W H : Nat} {L : List Bool} {w : World} (h : Rd w A (strs (rowsTo L W H))) (hL : L.length = W * H) (hW0 : 0 < W) (hW : W ≤ 16) (hH0 : 0 < H) (hH : H ≤ 16) :
    Calls Try.prog 17 #[.agg #[.slice A H c]] w (PicYes w W H (resL L W H)) := by
  have := residueOf_any A c (rowsTo L W H) w h (by rw [rowsTo_length]; omega)
  rw [told_ok hW0 hW hH0 hH, if_pos rfl, told_bits hH0 hL, told_w hH0, rowsTo_length] at this
  exact this.mono fun _ _ => PicYes.of
theorem yes_from {A : Option Addr} {c W H : Nat} {L : List Bool} {w : World} (h : Rd w A (strs (rowsTo L W H))) (hL : L.length = W * H) (hW0 : 0 < W) (hW : W ≤ 16) (hH0 : 0 < H) (hH : H ≤ 16) :
    Calls Try.prog 18 #[.agg #[.slice A H c]] w (PicYes w W H (frL L W H)) := by
  have := fromResidue_any A c (rowsTo L W H) w h (by rw [rowsTo_length]; omega)
  rw [told_ok hW0 hW hH0 hH, if_pos rfl, told_bits hH0 hL, told_w hH0, rowsTo_length] at this
  exact this.mono fun _ _ => PicYes.of
theorem resL_length (L : List Bool) (W H : Nat) : (resL L W H).length = W * H := by rw [resL_eq, bTo_length]
theorem frL_length (L : List Bool) (W H : Nat) : (frL L W H).length = W * H := by rw [frL_eq, bTo_length]
theorem same_told {A B : Option Addr} {c d W H : Nat} {L : List Bool} {w : World} (h1 : Rd w A (strs (rowsTo L W H))) (h2 : Rd w B (strs (rowsTo L W H))) (hH : H ≤ 16) :
    Calls Try.prog 19 #[.agg #[.slice A H c], .agg #[.slice B H d]] w fun e w' => e = .returned (.bool true) ∧ Below w.heap.size w w' := by
  have := same_any A B c d (rowsTo L W H) w h1 h2 (by rw [rowsTo_length]; omega)
  rwa [rowsTo_length] at this
theorem black_told {A : Option Addr} {c W H : Nat} {L : List Bool} {x y : Int} {w : World} (h : Rd w A (strs (rowsTo L W H))) (hL : L.length = W * H) (hW0 : 0 < W) (hW : W ≤ 16) (hH0 : 0 < H) (hH : H ≤ 16) :
    Calls Try.prog 20 #[.agg #[.slice A H c], .int .i64 x, .int .i64 y] w fun e w' => (∃ b, e = .returned (.bool b) ∧ Hid (b = bit L W H x y)) ∧ Below w.heap.size w w' := by
  have := blackL_any A c (rowsTo L W H) x y w h (told_ok hW0 hW hH0 hH)
  rw [told_bits hH0 hL, told_w hH0, rowsTo_length] at this
  exact this.mono fun e w' ⟨h1, h2⟩ => ⟨⟨_, h1, rfl⟩, h2⟩

theorem bool_law : ∀ a b c d : Bool, (((a != b) != (c != d)) != (((a != b) != c) != d)) = false := by decide

set_option maxRecDepth 100000 in
set_option maxHeartbeats 4000000 in
theorem walkResidues (w : World) (A : Option Addr) (n c : Nat) (l : List Int) (hl : BytesAt w A n l) (hn : n ≤ maxLen) (B : Option Addr) (m d : Nat) (l2 : List Int) (_ : BytesAt w B m l2) (hm : m ≤ maxLen) :
    Calls Try.prog 3 #[.slice A n c, .slice B m d] w fun e w' => e = .returned (.bool true) ∧ Below w.heap.size w w' := by
  have LO := Lib.hid (long_any A B n c m d hn hm w)
  cases hlong : (decide (48 < n) || decide (48 < m))
  case true =>
    rw [hlong] at LO
    clear hl hn hm hlong
    go_enter Try.func3, Try.ntmps3
    go_wp2_with (go_at_call 15; refine LO.out.mono ?_; rintro e w' ⟨rfl, rfl⟩)
    go_ret
    exact ⟨rfl, Ext.refl _⟩
  rw [hlong] at LO
  have R8 := Lib.hid (r8Picture_any A n c l w hl hn)
  clear hl hn hm hlong
  go_enter Try.func3, Try.ntmps3
  go_wp2_with (go_at_call 15; refine LO.out.mono ?_; rintro e w' ⟨rfl, rfl⟩)
  refine R8.out.mono ?_
  rintro e w1 ⟨A1, c1, W, H, L, rfl, hW0, hW, hH0, hH, hL, own1, hb1⟩
  have YR := Lib.hid (fun (A : Option Addr) (c : Nat) (L : List Bool) (V : World) (h : Rd V A (strs (rowsTo L W H))) (hL : L.length = W * H) => yes_res (c := c) h hL hW0 (by omega) hH0 (by omega))
  have YF := Lib.hid (fun (A : Option Addr) (c : Nat) (L : List Bool) (V : World) (h : Rd V A (strs (rowsTo L W H))) (hL : L.length = W * H) => yes_from (c := c) h hL hW0 (by omega) hH0 (by omega))
  have SM := Lib.hid (fun (A B : Option Addr) (c d : Nat) (V : World) (h1 : Rd V A (strs (rowsTo L W H))) (h2 : Rd V B (strs (rowsTo L W H))) => same_told (c := c) (d := d) h1 h2 (by omega))
  have BK := Lib.hid (fun (A : Option Addr) (c : Nat) (L : List Bool) (x y : Int) (V : World) (h1 : Rd V A (strs (rowsTo L W H))) (hL : L.length = W * H) => black_told (c := c) (x := x) (y := y) h1 hL hW0 (by omega) hH0 (by omega))
  have B1 := Ext.more hb1 (.cells #[.slice A1 H c1] 26)
  have T5 := Blk.made w1 26 #[.slice A1 H c1]
  replace own1 := own1.alloc (.cells #[.slice A1 H c1] 26)
  clear hb1
  go_wp2_with fail
  refine (YR.out _ _ L _ (Rd.of_own own1) hL).mono ?_
  rintro e w2 ⟨A2, c2, rfl, own2, hb⟩
  replace B1 := Ext.more (Ext.then_ B1 hb) (.cells #[.slice A2 H c2] 26)
  replace T5 := (T5.under hb T5.lt).more (.cells #[.slice A2 H c2] 26)
  replace own1 := (own_ext hb own1).alloc (.cells #[.slice A2 H c2] 26)
  have T6 := Blk.made w2 26 #[.slice A2 H c2]
  replace own2 := own2.alloc (.cells #[.slice A2 H c2] 26)
  clear hb
  go_wp2_with fail
  refine (YF.out _ _ _ _ (Rd.of_own own2) (resL_length _ _ _)).mono ?_
  rintro e w3 ⟨A3, c3, rfl, own3, hb⟩
  rw [fr_res hL] at own3
  replace B1 := Ext.more (Ext.then_ B1 hb) (.cells #[.slice A3 H c3] 26)
  replace T5 := (T5.under hb T5.lt).more (.cells #[.slice A3 H c3] 26)
  replace T6 := (T6.under hb T6.lt).more (.cells #[.slice A3 H c3] 26)
  replace own1 := (own_ext hb own1).alloc (.cells #[.slice A3 H c3] 26)
  replace own2 := (own_ext hb own2).alloc (.cells #[.slice A3 H c3] 26)
  have T8 := Blk.made w3 26 #[.slice A3 H c3]
  replace own3 := own3.alloc (.cells #[.slice A3 H c3] 26)
  clear hb
  have k5 := T5.cell 0
  simp at k5
  go_wp2_with fail
  refine (YF.out _ _ L _ (Rd.of_own own1) hL).mono ?_
  rintro e w4 ⟨A4, c4, rfl, own4, hb⟩
  replace B1 := Ext.more (Ext.then_ B1 hb) (.cells #[.slice A4 H c4] 26)
  replace T5 := (T5.under hb T5.lt).more (.cells #[.slice A4 H c4] 26)
  replace T6 := (T6.under hb T6.lt).more (.cells #[.slice A4 H c4] 26)
  replace T8 := (T8.under hb T8.lt).more (.cells #[.slice A4 H c4] 26)
  replace own1 := (own_ext hb own1).alloc (.cells #[.slice A4 H c4] 26)
  replace own2 := (own_ext hb own2).alloc (.cells #[.slice A4 H c4] 26)
  replace own3 := (own_ext hb own3).alloc (.cells #[.slice A4 H c4] 26)
  replace own4 := own4.alloc (.cells #[.slice A4 H c4] 26)
  clear hb k5
  go_wp2_with fail
  refine (YR.out _ _ _ _ (Rd.of_own own4) (frL_length _ _ _)).mono ?_
  rintro e w5 ⟨A5, c5, rfl, own5, hb⟩
  rw [res_fr hL] at own5
  replace B1 := Ext.more (Ext.then_ B1 hb) (.cells #[.slice A5 H c5] 26)
  replace T5 := (T5.under hb T5.lt).more (.cells #[.slice A5 H c5] 26)
  replace T6 := (T6.under hb T6.lt).more (.cells #[.slice A5 H c5] 26)
  replace T8 := (T8.under hb T8.lt).more (.cells #[.slice A5 H c5] 26)
  replace own1 := (own_ext hb own1).alloc (.cells #[.slice A5 H c5] 26)
  replace own2 := (own_ext hb own2).alloc (.cells #[.slice A5 H c5] 26)
  replace own3 := (own_ext hb own3).alloc (.cells #[.slice A5 H c5] 26)
  have T12 := Blk.made w5 26 #[.slice A5 H c5]
  replace own5 := own5.alloc (.cells #[.slice A5 H c5] 26)
  clear hb own4
  have k5 := T5.cell 0
  have k8 := T8.cell 0
  simp at k5 k8
  go_wp2_with fail
  generalize w5.alloc (.cells #[.slice A5 H c5] 26) = V at *
  refine (SM.out _ _ _ _ _ (Rd.of_own own3) (Rd.of_own own1)).mono ?_
  rintro e w6 ⟨rfl, hb⟩
  replace B1 := Ext.then_ B1 hb
  replace T5 := T5.under hb T5.lt
  replace T6 := T6.under hb T6.lt
  replace T12 := T12.under hb T12.lt
  replace own1 := own_ext hb own1
  replace own2 := own_ext hb own2
  replace own5 := own_ext hb own5
  clear hb k5 k8 own3
  have k5 := T5.cell 0
  have k12 := T12.cell 0
  simp at k5 k12
  go_wp2_with fail
  refine (SM.out _ _ _ _ _ (Rd.of_own own5) (Rd.of_own own1)).mono ?_
  rintro e w7 ⟨rfl, hb⟩
  replace B1 := Ext.then_ B1 hb
  replace T5 := T5.under hb T5.lt
  replace T6 := T6.under hb T6.lt
  replace own1 := own_ext hb own1
  replace own2 := own_ext hb own2
  clear hb k5 k12 own5 YR YF SM T12
  have ROW : Hid (∃ g, A1 = some ⟨g, 0, none⟩ ∧ g < w7.heap.size ∧ w7.cell? ⟨g, 0, none⟩ = some (.string (rowS L W 0))) := by
    obtain ⟨g, e, hg, hc⟩ := (Rd.of_own own1).str (by rw [rowsTo_length]; exact hH0)
    exact ⟨g, e, hg, by rw [hc 0 (by rw [rowsTo_length]; exact hH0), told_row hH0]⟩
  obtain ⟨g, rfl, hg, cg⟩ := ROW.out
  have sg := rowS_size L W 0
  generalize rowS L W 0 = r0 at *
  clear ROW
  have RES := Lib.hid (fun x y (hx : x < W) (hy : y < H) => (show bit (resL L W H) W H x y = ((bit L W H x y != bit L W H ((x : Int) - 1) y) != (bit L W H x ((y : Int) - 1) != bit L W H ((x : Int) - 1) ((y : Int) - 1))) by rw [resL_eq, bit_bTo hx hy, resF_at hx]))
  go_wp2_with fail
  go_loopw [14] (fun i wr => ∃ y : Nat, y ≤ H ∧ i = .int .i64 y ∧ Below w7.heap.size w7 wr) (fun i _ => H - (intOf i).toNat)
  case atStart => exact ⟨0, Nat.zero_le _, rfl, Ext.refl _⟩
  case round =>
    obtain ⟨y, hy, rfl, hb⟩ := hrel
    have k5 := (T5.under hb T5.lt).cell 0
    simp at k5
    by_cases hlt : y < H
    · have i2 : IntKind.i64.wrap ((y : Int) - 1) = (y : Int) - 1 := IntWalk.i64_in _ (by omega)
      go_wp2_with fail
      go_loopw [15] (fun i wr => ∃ x : Nat, x ≤ W ∧ i = .int .i64 x ∧ Below w7.heap.size w7 wr) (fun i _ => W - (intOf i).toNat)
      case atStart => exact ⟨0, Nat.zero_le _, rfl, hb⟩
      case round =>
        obtain ⟨x, hx, rfl, hb2⟩ := hrel
        clear k5
        have k5 := (T5.under hb2 T5.lt).cell 0
        have kg := (hb2.cell (p := ⟨g, 0, none⟩) hg).trans cg
        simp at k5
        have h0 : (0 : Int) < (H : Int) := by omega
        by_cases hxl : x < W
        · have i1 : IntKind.i64.wrap ((x : Int) - 1) = (x : Int) - 1 := IntWalk.i64_in _ (by omega)
          have t1 : (x : Int) < (r0.size : Int) := by omega
          have z5 := (T5.under hb2 T5.lt).lt
          have E1 := Lib.hid (fun V (hV : Below w7.heap.size w7 V) => Rd.of_own (own_ext hV own1))
          have E2 := Lib.hid (fun V (hV : Below w7.heap.size w7 V) => Rd.of_own (own_ext hV own2))
          go_wp2_with fail
          go_region_held3 (fun w' => w'.cell? ⟨w1.heap.size, 0, none⟩ = some (.slice (some ⟨g, 0, none⟩) H c1))
            (first | exact (hb'.cell (p := ⟨_, _, none⟩) (by first | omega | (simp; omega) | simp)).trans (by assumption) | go_keep)
            (first
              | (go_at_call 20; refine (BK.out _ _ L _ _ _ (E1.out _ (Ext.then_ (Ext.draw hb2) hba)) hL).mono ?_; rintro e wb ⟨⟨b2, rfl, hq2⟩, hb'⟩; have hbb := hb'; have yb : wa.heap.size ≤ wb.heap.size := hb'.size)
              | (go_at_call 20; refine (BK.out _ _ L _ _ _ (E1.out _ (Ext.draw hb2)) hL).mono ?_; rintro e wa ⟨⟨b1, rfl, hq1⟩, hb'⟩; have hba := hb'; have ya : wr.heap.size ≤ wa.heap.size := hb'.size))
          have hb3 : Below w7.heap.size w7 wb := Ext.then_ (Ext.then_ (Ext.draw hb2) hba) hbb
          clear k5 kg hba hbb z5
          have k5 := (T5.under hb3 T5.lt).cell 0
          simp at k5
          go_wp2_with fail
          refine (BK.out _ _ L _ _ _ (E1.out _ hb3) hL).mono ?_
          rintro e wc ⟨⟨b3, rfl, hq3⟩, hbc⟩
          have hb4 := Ext.then_ hb3 hbc
          clear k5 hbc
          have k5 := (T5.under hb4 T5.lt).cell 0
          simp at k5
          go_wp2_with fail
          refine (BK.out _ _ L _ _ _ (E1.out _ hb4) hL).mono ?_
          rintro e wd ⟨⟨b4, rfl, hq4⟩, hbd⟩
          have hb5 := Ext.then_ hb4 hbd
          clear k5 hbd
          have k6 := (T6.under hb5 T6.lt).cell 0
          simp at k6
          go_wp2_with fail
          refine (BK.out _ _ _ _ _ _ (E2.out _ hb5) (resL_length _ _ _)).mono ?_
          rintro e we ⟨⟨b5, rfl, hq5⟩, hbe⟩
          have hb6 := Ext.then_ hb5 hbe
          have FF : Hid (b5 = ((b1 != b2) != (b3 != b4))) := by
            have h := RES.out x y hxl hlt
            rw [Hid, hq5.out, h, hq1.out, hq2.out, hq3.out, hq4.out]
          have FN : (b5 != (((b1 != b2) != b3) != b4)) = false := by
            rw [FF.out]
            exact bool_law b1 b2 b3 b4
          simp only [bne] at FN
          clear k6 hbe hq1 hq2 hq3 hq4 hq5 FF
          go_wp2_with fail
          go_roundw
          case rel => exact ⟨x + 1, by omega, by go_num, hb6⟩
          case measure => simp [intOf]; omega
        · obtain rfl : x = W := by omega
          have t1 : ¬ (x : Int) < (r0.size : Int) := by omega
          go_wp2_with fail
          go_roundw
          case rel => exact ⟨y + 1, by omega, by go_num, hb2⟩
          case measure => simp [intOf]; omega
    · obtain rfl : y = H := by omega
      go_wp2_with fail
      go_ret
      exact ⟨rfl, Ext.then_ B1 hb⟩
end Go.Proofs.Ytdbelajgndclfaa
