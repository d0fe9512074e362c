/- GreyOfPicture: the program's. -/
import Derived.Test.YtdbelajgndclfaaGreyOf
namespace Go.Proofs.Ytdbelajgndclfaa
open Go.RowKit

/-- A call has returned a grey picture in new memory, and a bool. -/
def GreyRes (w : World) (R : List (List Int)) (ok : Bool) (e : Ending) (w' : World) : Prop :=
  ∃ A c vs, e = .returned (.tuple #[.agg #[.slice A R.length c], .bool ok]) ∧ MatAt w' w.heap.size w'.heap.size A c vs R ∧ Below w.heap.size w w'
def greyOf (rows : List ByteArray) : List (List Int) := gridI (gf (picBits rows) (picW rows) rows.length) (picW rows) rows.length

set_option maxRecDepth 100000 in
set_option maxHeartbeats 1000000 in
theorem greyOf_any (A : Option Addr) (c : Nat) (rows : List ByteArray) (w : World) (h : Rd w A (strs rows)) (hn : rows.length ≤ 1000000000) :
    Calls Try.prog 29 #[.agg #[.slice A rows.length c]] w (GreyRes w (if picOk rows then greyOf rows else []) (picOk rows)) := by
  have T2 : Blk ((w.alloc (.cells #[.slice A rows.length c] 26)).alloc (.cells #[.slice none 0 0] 39)) (w.heap.size + 1) 39 #[.slice none 0 0] := by
    have := Blk.made (w.alloc (.cells #[.slice A rows.length c] 26)) 39 #[.slice none 0 0]
    simpa using this
  have B1 : Below w.heap.size w ((w.alloc (.cells #[.slice A rows.length c] 26)).alloc (.cells #[.slice none 0 0] 39)) := Ext.more (Ext.more (Ext.refl _) _) _
  have IM := Lib.hid (imageOf_any A c rows _ (h.ext B1) hn)
  clear h
  cases hp : picOk rows
  · have IH := Lib.hid (IM.out.mono (fun e w' hI => (show e = .returned (.tuple #[.pointer none, .bool false]) ∧ Below _ _ w' from ⟨hI.no hp, hI.ext⟩)))
    clear IM hp
    show Calls _ _ _ _ (GreyRes w [] false)
    go_enter Try.func29, Try.ntmps29
    go_wp2_with fail
    refine IH.out.mono ?_
    rintro e w1 ⟨rfl, hb⟩
    have T3 := T2.under hb T2.lt
    have f0 := T3.free 0
    have c0 := T3.cell 0
    have cs := (T3.store 0 (.slice none 0 0)).cell 0
    simp at c0 cs
    go_wp2_with fail
    refine bodyPost_ret (v := .tuple #[.agg #[.slice none 0 0], .bool false]) (by simp [results, Try.results29, go_sem, cs]) rfl ⟨none, 0, [], rfl, MatAt.nil _ _ _ _ _ (World.ownsRow_nil _ _ _ _) (fun a ha => by cases ha), ?_⟩
    exact (Ext.then_ B1 hb).setCell (p := ⟨w.heap.size + 1, 0, none⟩) (by show w.heap.size ≤ w.heap.size + 1; omega) _
  · have IH := Lib.hid (IM.out.mono (fun e w' hI => (show (∃ p g, e = .returned (.tuple #[.pointer (some ⟨p, 0, none⟩), .bool true]) ∧ Img w' p g (picW rows) rows.length (picBits rows)) ∧ Below _ _ w' from ⟨(hI.yes hp).elim fun p h => h.elim fun g h => ⟨p, g, h.1, h.2.1⟩, hI.ext⟩)))
    obtain ⟨s1, s2, s3, s4⟩ : 0 < rows.length ∧ rows.length ≤ 16 ∧ 0 < picW rows ∧ picW rows ≤ 16 := by
      simp only [picOk, sizesOk, Bool.and_eq_true, inB_iff] at hp; omega
    have GH := Lib.hid (fun (p g : Nat) (V : World) (hV : Img V p g (picW rows) rows.length (picBits rows)) => grey_any p g _ _ _ V hV (by omega) (by omega))
    clear IM hp
    show Calls _ _ _ _ (GreyRes w (greyOf rows) true)
    have hlen : (greyOf rows).length = rows.length := gridI_length _ _ _
    go_enter Try.func29, Try.ntmps29
    go_wp2_with fail
    refine IH.out.mono ?_
    rintro e w1 ⟨⟨p, g, rfl, hm⟩, hb⟩
    have G1 := Lib.hid (GH.out p g w1 hm)
    have T3 := T2.under hb T2.lt
    have hz := hb.size
    simp only [World.size_alloc] at hz
    have B2 := Ext.then_ B1 hb
    clear hm hb
    go_wp2_with fail
    refine G1.out.mono ?_
    rintro e w2 ⟨A2, c2, vs, rfl, hM, hb2⟩
    have T4 := T3.under hb2 T3.lt
    have f0 := T4.free 0
    have c0 := T4.cell 0
    have cs := (T4.store 0 (.slice A2 rows.length c2)).cell 0
    simp at c0 cs
    have HM := Lib.hid hM
    have HL := Lib.hid hlen
    clear hM hlen
    go_wp2_with fail
    refine bodyPost_ret (v := .tuple #[.agg #[.slice A2 rows.length c2], .bool true]) (by simp [results, Try.results29, go_sem, cs]) rfl ⟨A2, c2, vs, by rw [HL.out], ?_, ?_⟩
    · have hk := HM.out.keep ((Chg.refl (fun b => b < w1.heap.size) w2).store (p := ⟨w.heap.size + 1, 0, none⟩) (by show w.heap.size + 1 < w1.heap.size; omega) (.slice A2 rows.length c2)) (fun b h1 h2 h3 => by omega)
      have hz2 : (w2.setCell ⟨w.heap.size + 1, 0, none⟩ (.slice A2 rows.length c2)).heap.size = w2.heap.size := by simp [World.setCell]
      rw [hz2]
      exact hk.low (by omega) (Nat.le_refl _)
    · exact (Ext.then_ B2 hb2).setCell (p := ⟨w.heap.size + 1, 0, none⟩) (by show w.heap.size ≤ w.heap.size + 1; omega) _
end Go.Proofs.Ytdbelajgndclfaa
