/- The code and the depth of a picture's tree: the functions that are exported. -/
import Derived.Test.YtdhajndmebnknaaGreatTopV
import Derived.Test.YtdhajndmebnknaaGreatImgOf
namespace Go.Proofs.YtdhajndmebnknaaGreat
open Go.RowKit

theorem PicAt.madeT {w : World} {A : Option Addr} {c : Nat} {rows : List ByteArray} (h : Rd w A (strs rows)) : PicAt (w.alloc (.cells #[.slice A rows.length c] 26)) w.heap.size A c rows :=
  ⟨by simp, (Blk.made w _ _).cell 0, h.ext (Ext.more (Ext.refl w) _)⟩
noncomputable def treeB (rows : List ByteArray) : ByteArray := ⟨(treeV (picBits rows) (picW rows) rows.length).1.toArray⟩
noncomputable def treeD (rows : List ByteArray) : Nat := (treeV (picBits rows) (picW rows) rows.length).2
noncomputable def codeT (rows : List ByteArray) : ByteArray := if picOk rows then treeB rows else ByteArray.empty
noncomputable def deepT (rows : List ByteArray) : Int := if picOk rows then (treeD rows : Int) else 0
noncomputable def sameT (a b : List ByteArray) : Bool := picOk a && (picOk b && ((treeB a).toList == (treeB b).toList))
set_option maxHeartbeats 400000 in
theorem treeCode_anyT (A : Option Addr) (c : Nat) (rows : List ByteArray) (w : World) (h : Rd w A (strs rows)) (hn : rows.length ≤ 1000000000) :
    Calls Tryz.prog 31 #[.agg #[.slice A rows.length c]] w fun e w' => e = .returned (.tuple #[.string (codeT rows), .bool (picOk rows)]) ∧ Below w.heap.size w w' := by
  have B1 : Below w.heap.size w (w.alloc (.cells #[.slice A rows.length c] 26)) := Ext.more (Ext.refl _) _
  have IM := Lib.hid (imageOf_any A c rows _ (h.ext B1) hn)
  cases hp : picOk rows
  · have V : Hid (codeT rows = ByteArray.empty) := by simp [Hid, codeT, hp]
    have IH := Lib.hid (IM.out.mono (fun e w' hI => (show e = .returned (.tuple #[.pointer none, .bool false]) ∧ Below _ _ w' from ⟨hI.no hp, hI.ext⟩)))
    rw [V.out]
    clear IM hp h hn
    go_enter Tryz.func31, Tryz.ntmps31
    go_wp2_with fail
    refine IH.out.mono ?_
    rintro e w1 ⟨rfl, hb⟩
    go_wp2_with fail
    go_ret2
    exact ⟨rfl, Ext.then_ B1 hb⟩
  · have V : Hid (codeT rows = treeB rows) := by simp [Hid, codeT, hp]
    have IH := Lib.hid (IM.out.mono (fun e w' hI => (show (∃ p g, e = .returned (.tuple #[.pointer (some ⟨p, 0, none⟩), .bool true]) ∧ Img w' p g (picW rows) rows.length (picBits rows)) ∧ Below _ _ w' from ⟨(hI.yes hp).elim fun p h => h.elim fun g h => ⟨p, g, h.1, h.2.1⟩, hI.ext⟩)))
    obtain ⟨s1, s2, s3, s4⟩ := picOk_sizes hp
    have PK : Hid (∀ p g V, Img V p g (picW rows) rows.length (picBits rows) → Calls Tryz.prog 56 #[.pointer (some ⟨p, 0, none⟩)] V fun e w' => e = .returned (.tuple #[.string (treeB rows), .int .i64 (treeD rows : Nat)]) ∧ Below V.heap.size V w') :=
      fun p g V hV => (treeI_any p g _ _ _ V hV s4 s2).mono fun e w' h => ⟨h.1, h.2.2.2⟩
    rw [V.out]
    clear IM hp h hn
    generalize treeB rows = tb at *
    generalize treeD rows = td at *
    go_enter Tryz.func31, Tryz.ntmps31
    go_wp2_with fail
    refine IH.out.mono ?_
    rintro e w1 ⟨⟨p, g, rfl, hm⟩, hb⟩
    have P1 := Lib.hid (PK.out p g w1 hm)
    clear hm PK
    go_wp2_with fail
    refine P1.out.mono ?_
    rintro e w2 ⟨rfl, hb2⟩
    go_wp2_with fail
    go_ret2
    exact ⟨rfl, Ext.then_ (Ext.then_ B1 hb) hb2⟩
set_option maxHeartbeats 1000000 in
theorem sameTop_any (A : Option Addr) (c : Nat) (rows : List ByteArray) (B : Option Addr) (d : Nat) (qrs : List ByteArray) (w : World) (h : Rd w A (strs rows)) (hn : rows.length ≤ 1000000000) (k : Rd w B (strs qrs)) (km : qrs.length ≤ 1000000000) :
    Calls Tryz.prog 12 #[.agg #[.slice A rows.length c], .agg #[.slice B qrs.length d]] w fun e w' => e = .returned (.bool (sameT rows qrs)) ∧ Below w.heap.size w w' := by
  have B1 := Ext.more (Ext.refl w) (.cells #[.slice A rows.length c] 26)
  have E2 := Ext.more (Ext.refl (w.alloc (.cells #[.slice A rows.length c] 26))) (.cells #[.slice B qrs.length d] 26)
  have T1 := (Blk.made w 26 #[.slice A rows.length c]).more (.cells #[.slice B qrs.length d] 26)
  have T2 := Blk.made (w.alloc (.cells #[.slice A rows.length c] 26)) 26 #[.slice B qrs.length d]
  rw [World.size_alloc] at T2
  have B2 := Ext.then_ B1 E2
  obtain ⟨w2, hw2⟩ : ∃ w2, (w.alloc (.cells #[.slice A rows.length c] 26)).alloc (.cells #[.slice B qrs.length d] 26) = w2 := ⟨_, rfl⟩
  rw [hw2] at T1 T2 B2
  have HW2 := Lib.hid hw2
  have TP := Lib.hid (treeCode_anyT A c rows w2 (h.ext B2) hn)
  have TQ := Lib.hid (fun V (hV : Below w2.heap.size w2 V) => treeCode_anyT B d qrs V ((k.ext B2).ext hV) km)
  have F : Hid (sameT rows qrs = (if picOk rows then (if picOk qrs then (codeT rows).toList == (codeT qrs).toList else false) else false)) := by
    rw [Hid, sameT, codeT, codeT]
    cases picOk rows <;> cases picOk qrs <;> simp
  clear E2 hw2 h k hn km B1
  rw [F.out]
  generalize codeT rows = tb at *
  generalize codeT qrs = ub at *
  clear F
  have l0 := T1.lt
  have l1 := T2.lt
  cases hp : picOk rows <;> cases hq : picOk qrs
  all_goals
    rw [hp] at TP
    rw [hq] at TQ
    clear hp hq
    have a0 := T1.cell 0
    simp at a0
    go_enter Tryz.func12, Tryz.ntmps12
    go_upto_region 1 with fail
    try simp only [HW2.out]
    go_wp2_with fail
    refine TP.out.mono ?_
    rintro e w3 ⟨rfl, hb3⟩
    have b0 := (T2.under hb3 T2.lt).cell 0
    simp at b0
    go_wp2_with fail
    refine (TQ.out _ hb3).mono ?_
    rintro e w4 ⟨rfl, hb4⟩
    clear a0 b0
    go_wp2_with fail
    go_ret
    exact ⟨rfl, Ext.then_ (Ext.then_ B2 hb3) hb4⟩
end Go.Proofs.YtdhajndmebnknaaGreat
