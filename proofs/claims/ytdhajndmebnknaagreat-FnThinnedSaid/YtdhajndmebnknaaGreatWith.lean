/- Pictures made out of pictures: withImage. -/
import Derived.Test.YtdhajndmebnknaaGreatImgOf
namespace Go.Proofs.YtdhajndmebnknaaGreat
open Go.RowKit

/-- A call has returned a picture in new memory, and a bool. -/
def PicRes (w : World) (R : List ByteArray) (ok : Bool) (e : Ending) (w' : World) : Prop :=
  ∃ A c, e = .returned (.tuple #[.agg #[.slice A R.length c], .bool ok]) ∧ w'.ownsRow w.heap.size 9 1 (.slice A R.length c) R.length (strs R) ∧ Below w.heap.size w w'

set_option maxRecDepth 100000 in
set_option maxHeartbeats 1000000 in
theorem withImage_any (A : Option Addr) (c : Nat) (rows : List ByteArray) (K : FuncId) (caps : Array Value) (W' H' : Nat) (L' : List Bool) (w : World) (h : Rd w A (strs rows)) (hn : rows.length ≤ 1000000000) (hW : W' ≤ 1000) (hH : H' ≤ 1000) (hK : Enters K)
    (hF : picOk rows = true → ∀ p g wr, Below w.heap.size w wr → Img wr p g (picW rows) rows.length (picBits rows) → Calls Tryz.prog K (#[.pointer (some ⟨p, 0, none⟩)] ++ caps) wr fun e w' => (∃ p' g', e = .returned (.pointer (some ⟨p', 0, none⟩)) ∧ Img w' p' g' W' H' L') ∧ Below wr.heap.size wr w') :
    Calls Tryz.prog 25 #[.agg #[.slice A rows.length c], .func (.func K) #[] caps] w (PicRes w (if picOk rows then rowsTo L' W' H' else []) (picOk rows)) := by
  unfold Enters at hK
  cases hp : picOk rows
  · have IH := Lib.hid (fun (V : World) (hh : Rd V A (strs rows)) => (imageOf_any A c rows V hh hn).mono (fun e w' hI => (show e = .returned (.tuple #[.pointer none, .bool false]) ∧ Below V.heap.size V w' from ⟨hI.no hp, hI.ext⟩)))
    clear hF
    have RES : ∀ (w' : World), Below w.heap.size w w' → PicRes w [] false (.returned (.tuple #[.agg #[.slice none 0 0], .bool false])) w' := fun w' hb => ⟨none, 0, rfl, World.ownsRow_nil _ _ _ _, hb⟩
    have RH := Lib.hid RES
    clear RES hp
    show Calls _ _ _ _ (PicRes w [] false)
    go_enter Tryz.func25, Tryz.ntmps25
    go_wp2_with fail
    refine (IH.out _ (h.ext (Ext.more (Ext.more (Ext.refl _) _) _))).mono ?_
    rintro e w1 ⟨rfl, hb⟩
    obtain ⟨hco, hfo⟩ := bcell hb
    have hz := hb.size
    simp only [World.size_alloc] at hz hco hfo
    have hz1 : w.heap.size < w1.heap.size := by omega
    have hz2 : w.heap.size + 1 < w1.heap.size := by omega
    go_wp2_with fail
    refine bodyPost_ret (v := .tuple #[.agg #[.slice none 0 0], .bool false]) (by simp [results, Tryz.results25, go_sem, hco]) rfl (RH.out _ ?_)
    exact (Ext.then_ (Ext.more (Ext.more (Ext.refl _) _) _) hb).setCell (p := ⟨w.heap.size + 1, _, none⟩) (by show w.heap.size ≤ w.heap.size + 1; omega) _
  · have IH := Lib.hid (fun (V : World) (hh : Rd V A (strs rows)) => (imageOf_any A c rows V hh hn).mono (fun e w' hI => (show (∃ p g, e = .returned (.tuple #[.pointer (some ⟨p, 0, none⟩), .bool true]) ∧ Img w' p g (picW rows) rows.length (picBits rows)) ∧ Below V.heap.size V w' from ⟨(hI.yes hp).elim fun p h => h.elim fun g h => ⟨p, g, h.1, h.2.1⟩, hI.ext⟩)))
    have FH := Lib.hid (hF hp)
    have TH := Lib.hid (fun (p g : Nat) (V : World) (hh : Img V p g W' H' L') => told_any p g W' H' L' V hh hW hH)
    clear hF hp
    show Calls _ _ _ _ (PicRes w (rowsTo L' W' H') true)
    have hlen : (rowsTo L' W' H').length = H' := rowsTo_length _ _ _
    have PR : Hid (∀ (A' : Option Addr) (c' : Nat) (w' : World), w'.ownsRow w.heap.size 9 1 (.slice A' H' c') H' (strs (rowsTo L' W' H')) → Below w.heap.size w w' → PicRes w (rowsTo L' W' H') true (.returned (.tuple #[.agg #[.slice A' H' c'], .bool true])) w') := by
      intro A' c' w' h1 h2
      refine ⟨A', c', ?_, ?_, h2⟩
      · rw [hlen]
      · rw [hlen]; exact h1
    clear hlen
    go_enter Tryz.func25, Tryz.ntmps25
    go_wp2_with fail
    refine (IH.out _ (h.ext (Ext.more (Ext.more (Ext.refl _) _) _))).mono ?_
    rintro e w1 ⟨⟨p, g, rfl, hm⟩, hb⟩
    have hb1 := Ext.then_ (Ext.more (Ext.more (Ext.refl w) (.cells #[.slice A rows.length c] 26)) (.cells #[.slice none 0 0] 26)) hb
    have F := Lib.hid (FH.out p g w1 hb1 hm)
    go_wp2_with fail
    refine F.out.mono ?_
    rintro e w2 ⟨⟨p', g', rfl, hm2⟩, hb2⟩
    go_wp2_with fail
    refine (TH.out p' g' _ hm2).mono ?_
    rintro e w3 ⟨A', c', rfl, hown, hb3⟩
    have hB0 : Blk ((w.alloc (.cells #[.slice A rows.length c] 26)).alloc (.cells #[.slice none 0 0] 26)) (w.heap.size + 1) 26 #[.slice none 0 0] := by
      have := Blk.made (w.alloc (.cells #[.slice A rows.length c] 26)) 26 #[.slice none 0 0]
      simpa using this
    have hB1 := hB0.under hb hB0.lt
    have hB2 := hB1.under hb2 hB1.lt
    have hB3 := hB2.under hb3 hB2.lt
    have c3 := hB3.cell 0
    have f3 := hB3.free 0
    have cs := (hB3.store 0 (.slice A' H' c')).cell 0
    simp at c3 cs
    have hlt := hB2.lt
    go_wp2_with fail
    refine bodyPost_ret (v := .tuple #[.agg #[.slice A' H' c'], .bool true]) (by simp [results, Tryz.results25, go_sem, cs]) rfl (PR.out A' c' _ ?_ ?_)
    · exact own_base (ownsRow_setCell_below hown (a := ⟨w.heap.size + 1, 0, none⟩) (by show w.heap.size + 1 < w2.heap.size; omega) _) (by omega)
    · exact (Ext.then_ (Ext.then_ hb1 hb2) hb3).setCell (p := ⟨w.heap.size + 1, 0, none⟩) (by show w.heap.size ≤ w.heap.size + 1; omega) _
end Go.Proofs.YtdhajndmebnknaaGreat
