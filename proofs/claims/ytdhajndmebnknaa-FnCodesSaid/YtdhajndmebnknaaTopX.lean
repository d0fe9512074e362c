/- The code and the depth of a picture's tree: the functions that are exported. -/
import Derived.Test.YtdhajndmebnknaaTopV
import Derived.Test.YtdhajndmebnknaaImgOf
namespace Go.Proofs.Ytdhajndmebnknaa
open Go.RowKit

theorem PicAt.madeT {w : World} {A : Option Addr} {c : Nat} {rows : List ByteArray} (h : Rd w A (strs rows)) : PicAt (w.alloc (.cells #[.slice A rows.length c] 28)) w.heap.size A c rows :=
  ⟨by simp, (Blk.made w _ _).cell 0, h.ext (Ext.more (Ext.refl w) _)⟩
noncomputable def treeB (rows : List ByteArray) : ByteArray := ⟨(treeV (picBits rows) (picW rows) rows.length).1.toArray⟩
noncomputable def treeD (rows : List ByteArray) : Nat := (treeV (picBits rows) (picW rows) rows.length).2
noncomputable def codeT (rows : List ByteArray) : ByteArray := if picOk rows then treeB rows else ByteArray.empty
noncomputable def deepT (rows : List ByteArray) : Int := if picOk rows then (treeD rows : Int) else 0
noncomputable def sameT (a b : List ByteArray) : Bool := picOk a && (picOk b && ((treeB a).toList == (treeB b).toList))
set_option maxRecDepth 100000 in
set_option maxHeartbeats 1000000 in
theorem treeS_any (mp : Nat) (A0 : Option Addr) (cc : Nat) (rows : List ByteArray) (w : World) (h : PicAt w mp A0 cc rows) (hok : picOk rows = true) :
    Calls Try.prog 26 #[.pointer (some ⟨mp, 0, none⟩)] w fun e w' => e = .returned (.tuple #[.string (treeB rows), .int .i64 (treeD rows : Nat)]) ∧ Below w.heap.size w w' := by
  obtain ⟨s1, s2, s3, s4⟩ := picOk_sizes hok
  obtain ⟨W, hW⟩ : ∃ W, picW rows = W := ⟨_, rfl⟩
  obtain ⟨H, hH⟩ : ∃ H, rows.length = H := ⟨_, rfl⟩
  obtain ⟨L, hL⟩ : ∃ L, picBits rows = L := ⟨_, rfl⟩
  have PA := Lib.hid (padS_any mp A0 cc rows L W H w h hok hL hW hH)
  have TB : Hid (treeB rows = ⟨(treeV L W H).1.toArray⟩ ∧ treeD rows = (treeV L W H).2) := by rw [Hid, treeB, treeD, hL, hW, hH]; exact ⟨rfl, rfl⟩
  rw [hW] at s3 s4
  rw [hH] at s1 s2
  rw [TB.out.1, TB.out.2]
  clear h hok hL hW hH TB
  have TV := Lib.hid (fun n c d (h : (pcF L W H).Nd n none (0, 0) c d) => treeV_is h)
  have HC : Hid ((pcI (padL L W H) (W + 2) (H + 2)).col ((0 : Nat), (0 : Nat)) = false) := pcF_col L W H
  have NS := Lib.hid (fun mp ga cc gs => nodeS_any mp ga cc gs (W + 2) (H + 2) (padL L W H) (padL_len L W H) (by omega) (by omega) (by omega) (by omega))
  obtain ⟨R, hR⟩ : ∃ R : Cell → Bool, ∀ z, R z = true ↔ (pcF L W H).Same (0, 0) z := ⟨fun z => @decide ((pcF L W H).Same (0, 0) z) (Classical.propDecidable _), fun z => by simp⟩
  have VP := Lib.hid (vp_root (s := fun z => false || R z) (fun z => by rw [Bool.false_or]; exact hR z))
  have HR := Lib.hid hR
  clear hR
  obtain ⟨V, hV⟩ : ∃ V, V = W + 2 := ⟨_, rfl⟩
  obtain ⟨G, hG⟩ : ∃ G, G = H + 2 := ⟨_, rfl⟩
  have WH : V * G ≤ 324 := Nat.le_trans (Nat.mul_le_mul (show V ≤ 18 by omega) (show G ≤ 18 by omega)) (by decide)
  have HFU : Hid (V * G + 1 ≤ 400 + (pcI (padL L W H) V G).cnt fun z => false || R z) := by rw [Hid]; omega
  have HPF : Hid (pcF L W H = pcI (padL L W H) V G) := by rw [hV, hG]; rfl
  rw [HPF.out] at TV HR VP
  rw [← hV, ← hG] at PA HC NS
  have hmk : ∀ U : World, (Instr.makeSlice 83 (.int .i64 ((V * G : Nat) : Int)) (.int .i64 ((V * G : Nat) : Int))).run Try.prog U = .ok (.slice (some ⟨U.heap.size, 0, none⟩) (V * G) (V * G)) (U.alloc (.cells (boolC (bTo (sO V fun _ => false) (V * G))) 4)) := by
    intro U
    obtain ⟨i0, hi0, hz0, hz1, hz2⟩ := info_parts boolInfo
    have h := run_make (P := Try.prog) U 83 4 i0 _ Try.underlying83 hi0 hz0 .i64 .i64 ((V * G : Nat) : Int) ((V * G : Nat) : Int) (by omega) (Int.le_refl _) (by rw [hz2]; omega) (by omega)
    rw [h, hz1, Int.toNat_natCast]
    show Result.ok _ (U.alloc (.cells (madeCells #[.bool false] (V * G * 1)) _)) = _
    rw [Nat.mul_one, boolC_made]
    have : List.replicate (V * G) false = bTo (sO V fun _ => false) (V * G) := by
      apply List.ext_getElem
      · simp [bTo]
      · intro i h1 h2; simp [bTo, sO]
    rw [this]
  have hmk2 : ∀ U : World, (Instr.makeSlice 83 (.int .i64 ((V : Int) * (G : Int))) (.int .i64 ((V : Int) * (G : Int)))).run Try.prog U = .ok (.slice (some ⟨U.heap.size, 0, none⟩) (V * G) (V * G)) (U.alloc (.cells (boolC (bTo (sO V fun _ => false) (V * G))) 4)) := fun U => by
    have := hmk U
    rw [Int.natCast_mul] at this
    exact this
  clear hmk
  have mw : (V : Int) * (G : Int) = ((V * G : Nat) : Int) := by simp
  have mw1 : IntKind.i64.wrap ((V : Int) * (G : Int)) = ((V * G : Nat) : Int) := by rw [mw]; exact IntWalk.i64_in _ (by omega)
  have mw2 : wrap64 ((V : Int) * (G : Int)) = ((V * G : Nat) : Int) := by rw [mw]; exact IntWalk.wrap64_in _ ⟨by omega, by omega⟩
  have V0 : 0 < V := by omega
  have G0 : 0 < G := by omega
  have V18 : V ≤ 18 := by omega
  have G18 : G ≤ 18 := by omega
  clear mw hV hG s1 s2 s3 s4
  go_enter Try.func26, Try.ntmps26
  go_wp2_with fail
  refine PA.out.mono ?_
  rintro e w1 ⟨A1, c1, rfl, hown, hb1⟩
  have hr1 := Rd.of_own hown
  obtain ⟨ga, rfl, hga, _⟩ := hr1 (by simp [strs, rowsTo_length]; omega)
  have hgw := (hown.lt ga rfl).1
  have HLW : Hid ((rowsTo (padL L W H) V G).length = G) := rowsTo_length _ _ _
  have P2 : PicAt (w1.alloc (.cells #[.slice (some ⟨ga, 0, none⟩) G c1] 28)) w1.heap.size (some ⟨ga, 0, none⟩) c1 (rowsTo (padL L W H) V G) := by
    have := PicAt.madeT (c := c1) hr1
    rw [HLW.out] at this
    exact this
  have B2 := Ext.more hb1 (.cells #[.slice (some ⟨ga, 0, none⟩) G c1] 28)
  have z2 : (w1.alloc (.cells #[.slice (some ⟨ga, 0, none⟩) G c1] 28)).heap.size = w1.heap.size + 1 := by simp
  obtain ⟨w2, hw2⟩ : ∃ w2, w1.alloc (.cells #[.slice (some ⟨ga, 0, none⟩) G c1] 28) = w2 := ⟨_, rfl⟩
  rw [hw2] at P2 B2 z2
  have HW2 := Lib.hid hw2
  have WD := Lib.hid (width_any _ _ _ _ w2 P2 (by rw [HLW.out]; exact G0))
  have HD := Lib.hid (height_any _ _ _ _ w2 P2)
  rw [told_w G0] at WD
  rw [HLW.out] at HD
  have E3 := Ext.more (Ext.refl w2) (.cells (boolC (bTo (sO V fun _ => false) (V * G))) 4)
  have X3 := Blk.made w2 4 (boolC (bTo (sO V fun _ => false) (V * G)))
  have N3 := Lib.hid (NS.out w1.heap.size ga c1 w2.heap.size (by omega) (by omega) 400 (by omega) none 0 0 (fun _ => false) R _ (P2.ext E3) (by rw [World.size_alloc]; omega) X3 HR.out VP.out HFU.out)
  rw [HC.out] at N3
  rw [show ((0 : Nat) : Int) = 0 from rfl] at N3
  have sz := B2.size
  have HB2 := Lib.hid B2
  have HZ2 := Lib.hid z2
  clear hown hb1 hr1 P2 B2 E3 X3 hw2 PA NS HFU VP z2
  go_upto_region 2 with fail
  try simp only [HW2.out]
  go_wp2_with (first
    | (go_at_call 48; refine WD.out.mono ?_; rintro e w' ⟨rfl, rfl⟩)
    | (go_at_call 49; refine HD.out.mono ?_; rintro e w' ⟨rfl, rfl⟩)
    | (go_at_call 47; refine N3.out.mono ?_; rintro e w4 ⟨c, d, s, rfl, TA, _, hC⟩))
  have TE := Lib.hid (TV.out 400 c d TA.nd)
  have BB : Below w.heap.size w w4 := by
    have e3 := Ext.more HB2.out (.cells (boolC (bTo (sO V fun _ => false) (V * G))) 4)
    refine e3.trans (hC.below (fun k hk => ?_) (by have := e3.size; exact this))
    rcases hk with rfl | hk
    · exact sz
    · simp at hk; omega
  clear TA hC
  go_wp2_with fail
  go_ret2
  exact ⟨by rw [TE.out]; rfl, BB⟩
set_option maxHeartbeats 400000 in
theorem treeCodeS_anyT (A : Option Addr) (c : Nat) (rows : List ByteArray) (w : World) (h : Rd w A (strs rows)) (hn : rows.length ≤ 1000000000) :
    Calls Try.prog 12 #[.agg #[.slice A rows.length c]] w fun e w' => e = .returned (.tuple #[.string (codeT rows), .bool (picOk rows)]) ∧ Below w.heap.size w w' := by
  have P1 : PicAt (w.alloc (.cells #[.slice A rows.length c] 28)) w.heap.size A c rows := PicAt.madeT h
  have B1 : Below w.heap.size w (w.alloc (.cells #[.slice A rows.length c] 28)) := Ext.more (Ext.refl _) _
  have IS := Lib.hid (isPic_any w.heap.size A c rows _ P1 hn)
  cases hok : picOk rows
  · have V : Hid (codeT rows = ByteArray.empty) := by simp [Hid, codeT, hok]
    rw [hok] at IS
    rw [V.out]
    clear P1 h hn hok
    go_enter Try.func12, Try.ntmps12
    go_wp2_with fail
    refine IS.out.mono ?_
    rintro e w1 ⟨rfl, k, rfl⟩
    go_wp2_with fail
    go_ret2
    exact ⟨rfl, Ext.drawN B1 k⟩
  · have V : Hid (codeT rows = treeB rows) := by simp [Hid, codeT, hok]
    have PS := Lib.hid (fun k => treeS_any w.heap.size A c rows _ (P1.drewN k) hok)
    rw [hok] at IS
    rw [V.out]
    clear P1 h hn hok
    generalize treeB rows = tb at *
    generalize treeD rows = td at *
    go_enter Try.func12, Try.ntmps12
    go_wp2_with fail
    refine IS.out.mono ?_
    rintro e w1 ⟨rfl, k, rfl⟩
    go_wp2_with fail
    refine (PS.out k).mono ?_
    rintro e w2 ⟨rfl, hb⟩
    go_wp2_with fail
    go_ret2
    exact ⟨rfl, Ext.then_ (Ext.drawN B1 k) hb⟩
set_option maxHeartbeats 400000 in
theorem depthOfS_anyT (A : Option Addr) (c : Nat) (rows : List ByteArray) (w : World) (h : Rd w A (strs rows)) (hn : rows.length ≤ 1000000000) :
    Calls Try.prog 8 #[.agg #[.slice A rows.length c]] w fun e w' => e = .returned (.tuple #[.int .i64 (deepT rows), .bool (picOk rows)]) ∧ Below w.heap.size w w' := by
  have P1 : PicAt (w.alloc (.cells #[.slice A rows.length c] 28)) w.heap.size A c rows := PicAt.madeT h
  have B1 : Below w.heap.size w (w.alloc (.cells #[.slice A rows.length c] 28)) := Ext.more (Ext.refl _) _
  have IS := Lib.hid (isPic_any w.heap.size A c rows _ P1 hn)
  cases hok : picOk rows
  · have V : Hid (deepT rows = 0) := by simp [Hid, deepT, hok]
    rw [hok] at IS
    rw [V.out]
    clear P1 h hn hok
    go_enter Try.func8, Try.ntmps8
    go_wp2_with fail
    refine IS.out.mono ?_
    rintro e w1 ⟨rfl, k, rfl⟩
    go_wp2_with fail
    go_ret2
    exact ⟨rfl, Ext.drawN B1 k⟩
  · have V : Hid (deepT rows = (treeD rows : Int)) := by simp [Hid, deepT, hok]
    have PS := Lib.hid (fun k => treeS_any w.heap.size A c rows _ (P1.drewN k) hok)
    rw [hok] at IS
    rw [V.out]
    clear P1 h hn hok
    generalize treeB rows = tb at *
    generalize treeD rows = td at *
    go_enter Try.func8, Try.ntmps8
    go_wp2_with fail
    refine IS.out.mono ?_
    rintro e w1 ⟨rfl, k, rfl⟩
    go_wp2_with fail
    refine (PS.out k).mono ?_
    rintro e w2 ⟨rfl, hb⟩
    go_wp2_with fail
    go_ret2
    exact ⟨rfl, Ext.then_ (Ext.drawN B1 k) hb⟩
set_option maxHeartbeats 400000 in
theorem treeCode_anyT (A : Option Addr) (c : Nat) (rows : List ByteArray) (w : World) (h : Rd w A (strs rows)) (hn : rows.length ≤ 1000000000) :
    Calls Try.prog 13 #[.agg #[.slice A rows.length c]] w fun e w' => e = .returned (.tuple #[.string (codeT rows), .bool (picOk rows)]) ∧ Below w.heap.size w w' := by
  have B1 : Below w.heap.size w (w.alloc (.cells #[.slice A rows.length c] 28)) := Ext.more (Ext.refl _) _
  have IM := Lib.hid (imageOf_any A c rows _ (h.ext B1) hn)
  cases hp : picOk rows
  · have V : Hid (codeT rows = ByteArray.empty) := by simp [Hid, codeT, hp]
    have IH := Lib.hid (IM.out.mono (fun e w' hI => (show e = .returned (.tuple #[.pointer none, .bool false]) ∧ Below _ _ w' from ⟨hI.no hp, hI.ext⟩)))
    rw [V.out]
    clear IM hp h hn
    go_enter Try.func13, Try.ntmps13
    go_wp2_with fail
    refine IH.out.mono ?_
    rintro e w1 ⟨rfl, hb⟩
    go_wp2_with fail
    go_ret2
    exact ⟨rfl, Ext.then_ B1 hb⟩
  · have V : Hid (codeT rows = treeB rows) := by simp [Hid, codeT, hp]
    have IH := Lib.hid (IM.out.mono (fun e w' hI => (show (∃ p g, e = .returned (.tuple #[.pointer (some ⟨p, 0, none⟩), .bool true]) ∧ Img w' p g (picW rows) rows.length (picBits rows)) ∧ Below _ _ w' from ⟨(hI.yes hp).elim fun p h => h.elim fun g h => ⟨p, g, h.1, h.2.1⟩, hI.ext⟩)))
    obtain ⟨s1, s2, s3, s4⟩ := picOk_sizes hp
    have PK : Hid (∀ p g V, Img V p g (picW rows) rows.length (picBits rows) → Calls Try.prog 29 #[.pointer (some ⟨p, 0, none⟩)] V fun e w' => e = .returned (.tuple #[.string (treeB rows), .int .i64 (treeD rows : Nat)]) ∧ Below V.heap.size V w') :=
      fun p g V hV => (treeI_any p g _ _ _ V hV s4 s2).mono fun e w' h => ⟨h.1, h.2.2.2⟩
    rw [V.out]
    clear IM hp h hn
    generalize treeB rows = tb at *
    generalize treeD rows = td at *
    go_enter Try.func13, Try.ntmps13
    go_wp2_with fail
    refine IH.out.mono ?_
    rintro e w1 ⟨⟨p, g, rfl, hm⟩, hb⟩
    have P1 := Lib.hid (PK.out p g w1 hm)
    clear hm PK
    go_wp2_with fail
    refine P1.out.mono ?_
    rintro e w2 ⟨rfl, hb2⟩
    go_wp2_with fail
    go_ret2
    exact ⟨rfl, Ext.then_ (Ext.then_ B1 hb) hb2⟩
set_option maxHeartbeats 400000 in
theorem depthOf_anyT (A : Option Addr) (c : Nat) (rows : List ByteArray) (w : World) (h : Rd w A (strs rows)) (hn : rows.length ≤ 1000000000) :
    Calls Try.prog 10 #[.agg #[.slice A rows.length c]] w fun e w' => e = .returned (.tuple #[.int .i64 (deepT rows), .bool (picOk rows)]) ∧ Below w.heap.size w w' := by
  have B1 : Below w.heap.size w (w.alloc (.cells #[.slice A rows.length c] 28)) := Ext.more (Ext.refl _) _
  have IM := Lib.hid (imageOf_any A c rows _ (h.ext B1) hn)
  cases hp : picOk rows
  · have V : Hid (deepT rows = 0) := by simp [Hid, deepT, hp]
    have IH := Lib.hid (IM.out.mono (fun e w' hI => (show e = .returned (.tuple #[.pointer none, .bool false]) ∧ Below _ _ w' from ⟨hI.no hp, hI.ext⟩)))
    rw [V.out]
    clear IM hp h hn
    go_enter Try.func10, Try.ntmps10
    go_wp2_with fail
    refine IH.out.mono ?_
    rintro e w1 ⟨rfl, hb⟩
    go_wp2_with fail
    go_ret2
    exact ⟨rfl, Ext.then_ B1 hb⟩
  · have V : Hid (deepT rows = (treeD rows : Int)) := by simp [Hid, deepT, hp]
    have IH := Lib.hid (IM.out.mono (fun e w' hI => (show (∃ p g, e = .returned (.tuple #[.pointer (some ⟨p, 0, none⟩), .bool true]) ∧ Img w' p g (picW rows) rows.length (picBits rows)) ∧ Below _ _ w' from ⟨(hI.yes hp).elim fun p h => h.elim fun g h => ⟨p, g, h.1, h.2.1⟩, hI.ext⟩)))
    obtain ⟨s1, s2, s3, s4⟩ := picOk_sizes hp
    have PK : Hid (∀ p g V, Img V p g (picW rows) rows.length (picBits rows) → Calls Try.prog 29 #[.pointer (some ⟨p, 0, none⟩)] V fun e w' => e = .returned (.tuple #[.string (treeB rows), .int .i64 (treeD rows : Nat)]) ∧ Below V.heap.size V w') :=
      fun p g V hV => (treeI_any p g _ _ _ V hV s4 s2).mono fun e w' h => ⟨h.1, h.2.2.2⟩
    rw [V.out]
    clear IM hp h hn
    generalize treeB rows = tb at *
    generalize treeD rows = td at *
    go_enter Try.func10, Try.ntmps10
    go_wp2_with fail
    refine IH.out.mono ?_
    rintro e w1 ⟨⟨p, g, rfl, hm⟩, hb⟩
    have P1 := Lib.hid (PK.out p g w1 hm)
    clear hm PK
    go_wp2_with fail
    refine P1.out.mono ?_
    rintro e w2 ⟨rfl, hb2⟩
    go_wp2_with fail
    go_ret2
    exact ⟨rfl, Ext.then_ (Ext.then_ B1 hb) hb2⟩
set_option maxHeartbeats 1000000 in
theorem sameTopS_any (A : Option Addr) (c : Nat) (rows : List ByteArray) (B : Option Addr) (d : Nat) (qrs : List ByteArray) (w : World) (h : Rd w A (strs rows)) (hn : rows.length ≤ 1000000000) (k : Rd w B (strs qrs)) (km : qrs.length ≤ 1000000000) :
    Calls Try.prog 14 #[.agg #[.slice A rows.length c], .agg #[.slice B qrs.length d]] w fun e w' => e = .returned (.bool (sameT rows qrs)) ∧ Below w.heap.size w w' := by
  have B1 := Ext.more (Ext.refl w) (.cells #[.slice A rows.length c] 28)
  have P1 : PicAt (w.alloc (.cells #[.slice A rows.length c] 28)) w.heap.size A c rows := PicAt.madeT h
  have E2 := Ext.more (Ext.refl (w.alloc (.cells #[.slice A rows.length c] 28))) (.cells #[.slice B qrs.length d] 28)
  have P2 := P1.ext E2
  have Q2 : PicAt ((w.alloc (.cells #[.slice A rows.length c] 28)).alloc (.cells #[.slice B qrs.length d] 28)) (w.heap.size + 1) B d qrs := by
    have := PicAt.madeT (c := d) (k.ext B1)
    rwa [World.size_alloc] at this
  have B2 := Ext.then_ B1 E2
  obtain ⟨w2, hw2⟩ : ∃ w2, (w.alloc (.cells #[.slice A rows.length c] 28)).alloc (.cells #[.slice B qrs.length d] 28) = w2 := ⟨_, rfl⟩
  rw [hw2] at P2 Q2 B2
  have HW2 := Lib.hid hw2
  have IP := Lib.hid (isPic_any _ A c rows _ P2 hn)
  have IQ := Lib.hid (fun j => isPic_any _ B d qrs _ (Q2.drewN j) km)
  have TP := Lib.hid (fun V (hV : Below w2.heap.size w2 V) ho => treeS_any _ A c rows V (P2.ext hV) ho)
  have TQ := Lib.hid (fun V (hV : Below w2.heap.size w2 V) ho => treeS_any _ B d qrs V (Q2.ext hV) ho)
  clear E2 P1 hw2 P2 Q2 h k hn km B1
  cases hp : picOk rows
  · have F : Hid (sameT rows qrs = false) := by simp [Hid, sameT, hp]
    rw [hp] at IP
    rw [F.out]
    clear TP TQ hp
    go_enter Try.func14, Try.ntmps14
    go_upto_region 1 with fail
    try simp only [HW2.out]
    go_wp2_with fail
    refine IP.out.mono ?_
    rintro e w3 ⟨rfl, j, rfl⟩
    go_wp2_with fail
    go_ret
    exact ⟨rfl, Ext.drawN B2 j⟩
  cases hq : picOk qrs
  · have F : Hid (sameT rows qrs = false) := by simp [Hid, sameT, hq]
    rw [hp] at IP
    rw [hq] at IQ
    rw [F.out]
    clear TP TQ hp hq
    go_enter Try.func14, Try.ntmps14
    go_upto_region 1 with fail
    try simp only [HW2.out]
    go_wp2_with fail
    refine IP.out.mono ?_
    rintro e w3 ⟨rfl, j, rfl⟩
    go_wp2_with fail
    refine (IQ.out j).mono ?_
    rintro e w4 ⟨rfl, j2, rfl⟩
    go_wp2_with fail
    go_ret
    exact ⟨rfl, Ext.drawN B2 (j + j2)⟩
  · have F : Hid (sameT rows qrs = ((treeB rows).toList == (treeB qrs).toList)) := by simp [Hid, sameT, hp, hq]
    have TP2 := Lib.hid (fun V hV => TP.out V hV hp)
    have TQ2 := Lib.hid (fun V hV => TQ.out V hV hq)
    rw [hp] at IP
    rw [hq] at IQ
    rw [F.out]
    clear TP TQ hp hq
    generalize treeB rows = tb at *
    generalize treeD rows = td at *
    generalize treeB qrs = ub at *
    generalize treeD qrs = ud at *
    go_enter Try.func14, Try.ntmps14
    go_upto_region 1 with fail
    try simp only [HW2.out]
    go_wp2_with fail
    refine IP.out.mono ?_
    rintro e w3 ⟨rfl, j, rfl⟩
    go_wp2_with fail
    refine (IQ.out j).mono ?_
    rintro e w4 ⟨rfl, j2, rfl⟩
    go_wp2_with fail
    refine (TP2.out _ (Ext.drawN (Ext.refl _) (j + j2))).mono ?_
    rintro e w5 ⟨rfl, hb5⟩
    have B5 := Ext.then_ (Ext.drawN (Ext.refl w2) (j + j2)) hb5
    go_wp2_with fail
    refine (TQ2.out _ B5).mono ?_
    rintro e w6 ⟨rfl, hb6⟩
    go_wp2_with fail
    go_ret
    exact ⟨rfl, Ext.then_ (Ext.then_ B2 B5) hb6⟩
set_option maxHeartbeats 1000000 in
theorem sameTop_any (A : Option Addr) (c : Nat) (rows : List ByteArray) (B : Option Addr) (d : Nat) (qrs : List ByteArray) (w : World) (h : Rd w A (strs rows)) (hn : rows.length ≤ 1000000000) (k : Rd w B (strs qrs)) (km : qrs.length ≤ 1000000000) :
    Calls Try.prog 15 #[.agg #[.slice A rows.length c], .agg #[.slice B qrs.length d]] w fun e w' => e = .returned (.bool (sameT rows qrs)) ∧ Below w.heap.size w w' := by
  have B1 := Ext.more (Ext.refl w) (.cells #[.slice A rows.length c] 28)
  have E2 := Ext.more (Ext.refl (w.alloc (.cells #[.slice A rows.length c] 28))) (.cells #[.slice B qrs.length d] 28)
  have T1 := (Blk.made w 28 #[.slice A rows.length c]).more (.cells #[.slice B qrs.length d] 28)
  have T2 := Blk.made (w.alloc (.cells #[.slice A rows.length c] 28)) 28 #[.slice B qrs.length d]
  rw [World.size_alloc] at T2
  have B2 := Ext.then_ B1 E2
  obtain ⟨w2, hw2⟩ : ∃ w2, (w.alloc (.cells #[.slice A rows.length c] 28)).alloc (.cells #[.slice B qrs.length d] 28) = w2 := ⟨_, rfl⟩
  rw [hw2] at T1 T2 B2
  have HW2 := Lib.hid hw2
  have TP := Lib.hid (treeCode_anyT A c rows w2 (h.ext B2) hn)
  have TQ := Lib.hid (fun V (hV : Below w2.heap.size w2 V) => treeCode_anyT B d qrs V ((k.ext B2).ext hV) km)
  have F : Hid (sameT rows qrs = (if picOk rows then (if picOk qrs then (codeT rows).toList == (codeT qrs).toList else false) else false)) := by
    rw [Hid, sameT, codeT, codeT]
    cases picOk rows <;> cases picOk qrs <;> simp
  clear E2 hw2 h k hn km B1
  rw [F.out]
  generalize codeT rows = tb at *
  generalize codeT qrs = ub at *
  clear F
  have l0 := T1.lt
  have l1 := T2.lt
  cases hp : picOk rows <;> cases hq : picOk qrs
  all_goals
    rw [hp] at TP
    rw [hq] at TQ
    clear hp hq
    have a0 := T1.cell 0
    simp at a0
    go_enter Try.func15, Try.ntmps15
    go_upto_region 1 with fail
    try simp only [HW2.out]
    go_wp2_with fail
    refine TP.out.mono ?_
    rintro e w3 ⟨rfl, hb3⟩
    have b0 := (T2.under hb3 T2.lt).cell 0
    simp at b0
    go_wp2_with fail
    refine (TQ.out _ hb3).mono ?_
    rintro e w4 ⟨rfl, hb4⟩
    clear a0 b0
    go_wp2_with fail
    go_ret
    exact ⟨rfl, Ext.then_ (Ext.then_ B2 hb3) hb4⟩
end Go.Proofs.Ytdhajndmebnknaa
