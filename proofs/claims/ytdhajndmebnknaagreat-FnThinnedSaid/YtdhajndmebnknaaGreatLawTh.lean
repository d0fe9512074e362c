/- The law FnThinned: thinned and shrunk pictures. Printed by gen_lawth.py. -/
import Derived.Test.YtdhajndmebnknaaGreatThQ
import Derived.Test.YtdhajndmebnknaaGreatThS
import Derived.Test.YtdhajndmebnknaaGreatTopX
import Derived.Test.YtdhajndmebnknaaGreatEnd
import Derived.Test.YtdhajndmebnknaaGreatRngB
import Derived.Test.YtdhajndmebnknaaGreatB10B
import Derived.Test.YtdhajndmebnknaaGreatHQ
import Derived.Deep.RegionHeld3
import Derived.Deep.RegionLaw
import Derived.Deep.CutRange
import Derived.Deep.DeepCutAuto
namespace Go.Proofs.YtdhajndmebnknaaGreat
open Go.RowKit

/-- What is asked of a picture from which pixels have been taken. -/
structure ThGood (e : Bool) (rows R : List ByteArray) : Prop where
  ok : picOk R = true
  w : picW R = picW rows
  len : R.length = rows.length
  comp : compN e (picBits R) (picW R) R.length = compN e (picBits rows) (picW rows) rows.length
  hole : holeN e (picBits R) (picW R) R.length = holeN e (picBits rows) (picW rows) rows.length
  sub : ∀ i, (picBits R).getD i false = true → (picBits rows).getD i false = true
  same : e = true → sameT rows R = true
theorem picBits_lenT (rows : List ByteArray) : (picBits rows).length = picW rows * rows.length := by simp [picBits]
theorem good_of {e : Bool} {rows : List ByteArray} {M : List Bool} (hok : picOk rows = true) (hg : Gone e (picW rows) rows.length (picBits rows) M) : ThGood e rows (rowsTo M (picW rows) rows.length) := by
  obtain ⟨s1, s2, s3, s4⟩ := picOk_sizes hok
  have hl := picBits_lenT rows
  have hM : M.length = picW rows * rows.length := by rw [hg.len, hl]
  have e1 := told_bits (W := picW rows) (H := rows.length) (L := M) s1 hM
  have e2 := told_w (L := M) (W := picW rows) (H := rows.length) s1
  have e3 := rowsTo_length M (picW rows) rows.length
  have o := told_ok (L := M) s3 s4 s1 s2
  have cp := hg.comp hl (by omega) (by omega)
  refine ⟨o, e2, e3, ?_, ?_, ?_, ?_⟩
  · rw [e1, e2, e3]; exact cp.1
  · rw [e1, e2, e3]; exact cp.2
  · rw [e1]; exact hg.sub
  · rintro rfl
    have et : treeB (rowsTo M (picW rows) rows.length) = treeB rows := by
      unfold treeB
      rw [e1, e2, e3, ← hg.tree hl]
    rw [sameT, hok, o, et]
    simp
theorem thGood {rows : List ByteArray} (e : Bool) (least : Int) (hok : picOk rows = true) : ThGood e rows (thR e least rows) := good_of hok (thin_gone (picBits_lenT rows))
theorem th_th {rows : List ByteArray} (e : Bool) (least : Int) (hok : picOk rows = true) : thR e least (thR e least rows) = thR e least rows := by
  obtain ⟨s1, s2, s3, s4⟩ := picOk_sizes hok
  have hl := picBits_lenT rows
  have hM : (thinL e least (picW rows) rows.length (picBits rows)).length = picW rows * rows.length := by rw [(thin_gone hl).len, hl]
  have e1 := told_bits (W := picW rows) (H := rows.length) (L := thinL e least (picW rows) rows.length (picBits rows)) s1 hM
  have e2 := told_w (L := thinL e least (picW rows) rows.length (picBits rows)) (W := picW rows) (H := rows.length) s1
  have e3 := rowsTo_length (thinL e least (picW rows) rows.length (picBits rows)) (picW rows) rows.length
  unfold thR
  rw [e1, e2, e3, thin_thin hl]
theorem setGood {rows : List ByteArray} {e : Bool} {x y : Nat} (hok : picOk rows = true) (hx : x < picW rows) (hy : y < rows.length) (h : simpT rows e x y = true) : ThGood e rows (setR rows x y false) := by
  simp only [simpT, Bool.and_eq_true] at h
  exact good_of hok (.step _ x y .refl hx hy h.1 (simpleD_iff.1 h.2))
/-- The calls on such a picture. -/
structure QLaw (e : Bool) (wp : World) (A1 : Option Addr) (n1 c1 cn : Nat) (hn : Int) (R : List ByteArray) : Prop where
  comp : ∀ V A c, Rd V A (strs R) → Calls Tryz.prog 6 #[.agg #[.slice A R.length c], .bool e] V fun e' w' => ∃ v, e' = .returned (.tuple #[v, .int .i64 cn, .bool true]) ∧ Below V.heap.size V w'
  hole : ∀ V A c, Rd V A (strs R) → Calls Tryz.prog 7 #[.agg #[.slice A R.length c], .bool e] V fun e' w' => e' = .returned (.tuple #[.int .i64 hn, .bool true]) ∧ Below V.heap.size V w'
  inside : ∀ V A c, Below wp.heap.size wp V → Rd V A (strs R) → Calls Tryz.prog 11 #[.agg #[.slice A R.length c], .agg #[.slice A1 n1 c1]] V fun e' w' => e' = .returned (.bool true) ∧ Below V.heap.size V w'
  same : e = true → ∀ V A c, Below wp.heap.size wp V → Rd V A (strs R) → Calls Tryz.prog 12 #[.agg #[.slice A1 n1 c1], .agg #[.slice A R.length c]] V fun e' w' => e' = .returned (.bool true) ∧ Below V.heap.size V w'
  twice : ∀ V A c B d, Rd V A (strs R) → Rd V B (strs R) → Calls Tryz.prog 10 #[.agg #[.slice A R.length c], .agg #[.slice B R.length d]] V fun e' w' => e' = .returned (.bool true) ∧ Below V.heap.size V w'
theorem qlaw_of {e : Bool} {rows R : List ByteArray} {wp : World} {A1 : Option Addr} {c1 : Nat} (hok : picOk rows = true) (g : ThGood e rows R) (hp : Rd wp A1 (strs rows)) :
    QLaw e wp A1 rows.length c1 (compN e (picBits rows) (picW rows) rows.length) (holeN e (picBits rows) (picW rows) rows.length) R := by
  obtain ⟨s1, s2, s3, s4⟩ := picOk_sizes hok
  have gl := g.len
  refine ⟨fun V A c h => ?_, fun V A c h => ?_, fun V A c hb h => ?_, fun he V A c hb h => ?_, fun V A c B d h k => ?_⟩
  · have := componentsOf_any A c R e V h g.ok
    rw [g.comp] at this
    exact this
  · have := countHoles_any A c R e V h g.ok
    rw [g.hole] at this
    exact this
  · exact isInside_any A A1 c c1 R rows V h (hp.ext hb) g.ok hok g.w g.len g.sub
  · have := sameTop_any A1 c1 rows A c R V (hp.ext hb) (by omega) h (by omega)
    rw [g.same he] at this
    exact this
  · exact b10Same_any A B c d R V h k (by omega) (by omega)

set_option maxRecDepth 100000 in
set_option maxHeartbeats 4000000 in
theorem walkThinned (w : World) (A : Option Addr) (n c : Nat) (l : List Int) (hl : BytesAt w A n l) (hn : n ≤ maxLen) (B : Option Addr) (m d : Nat) (l2 : List Int) (hl2 : BytesAt w B m l2) (hm : m ≤ maxLen) :
    Calls Tryz.prog 3 #[.slice A n c, .slice B m d] w fun e w' => e = .returned (.bool true) ∧ Below w.heap.size w w' := by
  have LO := Lib.hid (b10Long_any A B n c m d hn hm w)
  cases hlong : (decide (1048576 < n) || decide (1048576 < m))
  case true =>
    rw [hlong] at LO
    clear hl hl2 hn hm hlong
    go_enter Tryz.func3, Tryz.ntmps3
    go_wp2_with (go_at_call 4; refine LO.out.mono ?_; rintro e w' ⟨rfl, rfl⟩)
    go_ret
    exact ⟨rfl, Ext.refl _⟩
  rw [hlong] at LO
  have RG := Lib.hid (b10Rings_any A n c l w hl hn)
  have AT := Lib.hid (fun (k : Nat) (hk : k ≤ 10) (N : Nat) (hN : 0 < N) (hN2 : N ≤ 16) V (hb : Below w.heap.size w V) => (show Calls Tryz.prog 13 #[.slice B m d, .int .i64 k, .int .i64 N] V _ from b10At_any B m d l2 k N V (hl2.ext hb) hN (by omega) (by omega) hm))
  clear hl hn hl2 hm hlong
  go_enter Tryz.func3, Tryz.ntmps3
  go_wp2_with (go_at_call 4; refine LO.out.mono ?_; rintro e w' ⟨rfl, rfl⟩)
  refine RG.out.mono ?_
  rintro e w1 ⟨A1, c1, rows, rfl, own1, hok, h12, hw12, hb1⟩
  obtain ⟨s1, s2, s3, s4⟩ := picOk_sizes hok
  have RD1 := Rd.of_own own1
  obtain ⟨g1, rfl, hg1, hc1⟩ := RD1 (by simpa [strs] using s1)
  have q0 : w1.cell? ⟨g1, 0, none⟩ = some (.string rows[0]) := by rw [hc1 0 (by simpa [strs] using s1)]; simp [strs]
  have hs0 : (rows[0]).size = picW rows := picW_head s1
  obtain ⟨wp, hwp⟩ : ∃ wp, w1.alloc (.cells #[.slice (some ⟨g1, 0, none⟩) rows.length c1] 26) = wp := ⟨_, rfl⟩
  have E1 : Below w1.heap.size w1 wp := by rw [← hwp]; exact Ext.more (Ext.refl _) _
  have T5 : Blk wp w1.heap.size 26 #[.slice (some ⟨g1, 0, none⟩) rows.length c1] := by rw [← hwp]; exact Blk.made w1 _ _
  have BW := Lib.hid (Ext.then_ hb1 E1)
  have RP := RD1.ext E1
  have K5 : Hid (∀ V, Below wp.heap.size wp V → V.cell? ⟨w1.heap.size, 0, none⟩ = some (.slice (some ⟨g1, 0, none⟩) rows.length c1) ∧ V.cell? ⟨g1, 0, none⟩ = some (.string rows[0])) := fun V hb =>
    ⟨(hb.cell (p := ⟨w1.heap.size, 0, none⟩) T5.lt).trans (by simpa using T5.cell 0), ((Ext.then_ E1 hb).cell (p := ⟨g1, 0, none⟩) hg1).trans q0⟩
  have CP := Lib.hid (fun e V (hb : Below wp.heap.size wp V) => componentsOf_any (some ⟨g1, 0, none⟩) c1 rows e V (RP.ext hb) hok)
  have CH := Lib.hid (fun e V (hb : Below wp.heap.size wp V) => countHoles_any (some ⟨g1, 0, none⟩) c1 rows e V (RP.ext hb) hok)
  have PT := Lib.hid (fun e V (hb : Below wp.heap.size wp V) => thinPicture_any (some ⟨g1, 0, none⟩) c1 rows e V (RP.ext hb) hok)
  have PS := Lib.hid (fun e V (hb : Below wp.heap.size wp V) => shrinkPicture_any (some ⟨g1, 0, none⟩) c1 rows e V (RP.ext hb) hok)
  have QT : Hid (∀ e V A2 c2, Rd V A2 (strs (thR e 2 rows)) → Calls Tryz.prog 8 #[.agg #[.slice A2 (thR e 2 rows).length c2], .bool e] V (PicRes V (thR e 2 rows) true)) := fun e V A2 c2 h => by
    have := thinPicture_any A2 c2 _ e V h (thGood e 2 hok).ok
    rw [th_th e 2 hok] at this
    exact this
  have QX : Hid (∀ e V A2 c2, Rd V A2 (strs (thR e 0 rows)) → Calls Tryz.prog 8 #[.agg #[.slice A2 (thR e 0 rows).length c2], .bool e] V (PicRes V (thR e 2 (thR e 0 rows)) true)) := fun e V A2 c2 h => thinPicture_any A2 c2 _ e V h (thGood e 0 hok).ok
  have QS : Hid (∀ e V A2 c2, Rd V A2 (strs (thR e 0 rows)) → Calls Tryz.prog 9 #[.agg #[.slice A2 (thR e 0 rows).length c2], .bool e] V (PicRes V (thR e 0 rows) true)) := fun e V A2 c2 h => by
    have := shrinkPicture_any A2 c2 _ e V h (thGood e 0 hok).ok
    rw [th_th e 0 hok] at this
    exact this
  have QA := Lib.hid (fun e => qlaw_of (c1 := c1) hok (thGood e 2 hok) RP)
  have QB := Lib.hid (fun e => qlaw_of (c1 := c1) hok (thGood e 0 hok) RP)
  have IS := Lib.hid (fun e (x y : Nat) (hx : x < rows[0].size) (hy : y < rows.length) V (hb : Below wp.heap.size wp V) => isSimple_any (some ⟨g1, 0, none⟩) c1 rows x y e V (RP.ext hb) hok (by omega) hy)
  have SP := Lib.hid (fun (x y : Nat) (hx : x < rows[0].size) (hy : y < rows.length) V (hb : Below wp.heap.size wp V) => setPixel_any (some ⟨g1, 0, none⟩) c1 rows x y false V (RP.ext hb) hok (by omega) hy)
  have QR := Lib.hid (fun e (x y : Nat) (hx : x < rows[0].size) (hy : y < rows.length) (hs : simpT rows e x y = true) => qlaw_of (c1 := c1) hok (setGood (e := e) hok (by omega) hy hs) RP)
  have BK := Lib.hid (fun e (x y : Nat) (hs : simpT rows e x y = true) V (hb : Below wp.heap.size wp V) => (show Calls Tryz.prog 16 #[.agg #[.slice (some ⟨g1, 0, none⟩) rows.length c1], .int .i64 x, .int .i64 y] V fun e' w' => e' = .returned (.bool true) ∧ Below V.heap.size V w' from by
    have := b10Black_any (some ⟨g1, 0, none⟩) c1 rows x y V (RP.ext hb) hok
    simp only [simpT, Bool.and_eq_true] at hs
    rw [hs.1] at this
    exact this))
  have S0 : 0 < rows[0].size ∧ rows[0].size ≤ 16 := by omega
  have HWP := Lib.hid hwp
  have T5L := T5.lt
  have HG1 : g1 < wp.heap.size := Nat.lt_of_lt_of_le hg1 E1.size
  clear RG LO own1 RD1 hg1 hc1 q0 E1 T5 RP hb1 hok hwp h12 hw12 s3 s4 hs0
  generalize (fun e => compN e (picBits rows) (picW rows) rows.length) = CN at *
  generalize rows[0] = str at *
  go_upto_region 4 with fail
  rw [HWP.out]
  clear HWP
  go_wp2_with fail
  go_loopw [6] (fun i wr => ∃ k : Nat, k ≤ 2 ∧ i = .int .i64 k ∧ Below wp.heap.size wp wr) (fun i _ => 2 - (intOf i).toNat)
  case atStart => exact ⟨0, Nat.zero_le _, rfl, Ext.refl _⟩
  case round =>
    obtain ⟨k, hk, rfl, hb⟩ := hrel
    by_cases hlt : k < 2
    · have wk : IntKind.i64.wrap ((k : Int) + 1) = ((k + 1 : Nat) : Int) := by rw [IntWalk.i64_in _ (by omega)]; simp
      have tk : (k : Int) < 2 := by omega
      obtain ⟨e, he⟩ : ∃ e, ((k : Int) == 1) = e := ⟨_, rfl⟩
      have k5 := (K5.out wr hb).1
      have CP1 := Lib.hid (CP.out e wr hb)
      have CH1 := Lib.hid (CH.out e)
      have QA1 := Lib.hid (QA.out e)
      have QB1 := Lib.hid (QB.out e)
      have QR1 := Lib.hid (QR.out e)
      have IS1 := Lib.hid (IS.out e)
      have BK1 := Lib.hid (BK.out e)
      clear CP CH QA QB QR IS BK
      generalize compN e (picBits rows) (picW rows) rows.length = cn at *
      generalize holeN e (picBits rows) (picW rows) rows.length = hnn at *
      go_wp2_with fail
      refine CP1.out.mono ?_
      rintro e' w2 ⟨v2, rfl, hb2⟩
      have bp2 := Ext.then_ hb hb2
      clear hb hb2 k5 CP1
      have k5 := (K5.out w2 bp2).1
      go_wp2_with fail
      refine (CH1.out w2 bp2).mono ?_
      rintro e' w3 ⟨rfl, hb3⟩
      have bp3 := Ext.then_ bp2 hb3
      clear hb3 k5 CH1 bp2
      go_wp2_with fail
      go_loopw [13] (fun i wr => ∃ kd : Nat, kd ≤ 2 ∧ i = .int .i64 kd ∧ Below w3.heap.size w3 wr) (fun i _ => 2 - (intOf i).toNat)
      case atStart => exact ⟨0, Nat.zero_le _, rfl, Ext.refl _⟩
      case round =>
        obtain ⟨kd, hkd, rfl, B3⟩ := hrel
        have BP := Ext.then_ bp3 B3
        by_cases hlk : kd < 2
        · have wkd : IntKind.i64.wrap ((kd : Int) + 1) = ((kd + 1 : Nat) : Int) := by rw [IntWalk.i64_in _ (by omega)]; simp
          have tkd : (kd : Int) < 2 := by omega
          cases hkk : ((kd : Int) == 1)
          · have k5 := (K5.out wr BP).1
            go_wp2_with fail
            refine (PT.out e wr BP).mono ?_
            rintro e' w4 ⟨A2, c2, rfl, own2, hb4⟩
            have T14 := Blk.made w4 26 #[.slice A2 (thR e 2 rows).length c2]
            have RA2 := (Rd.of_own own2).ext (Ext.more (Ext.refl w4) (.cells #[.slice A2 (thR e 2 rows).length c2] 26))
            have BP4 := Ext.more (Ext.then_ BP hb4) (.cells #[.slice A2 (thR e 2 rows).length c2] 26)
            have B34 := Ext.more (Ext.then_ B3 hb4) (.cells #[.slice A2 (thR e 2 rows).length c2] 26)
            clear k5 own2 hb4
            have k5 := (K5.out _ BP4).1
            have k14 : (w4.alloc (.cells #[.slice A2 (thR e 2 rows).length c2] 26)).cell? ⟨w4.heap.size, 0, none⟩ = some (.slice A2 (thR e 2 rows).length c2) := cell_new _ _ _ 0
            have QT4 := Lib.hid (QT.out e _ A2 c2 RA2)
            go_wp2_with fail
            refine QT4.out.mono ?_
            rintro e' w5 ⟨A3, c3, rfl, own3, hb5⟩
            have RA3 := (Rd.of_own own3).ext (Ext.more (Ext.refl w5) (.cells #[.slice A3 (thR e 2 rows).length c3] 26))
            have T16 := Blk.made w5 26 #[.slice A3 (thR e 2 rows).length c3]
            have b5 := Ext.more hb5 (.cells #[.slice A3 (thR e 2 rows).length c3] 26)
            have BPU := Ext.then_ BP4 b5
            have B3U := Ext.then_ B34 b5
            replace T14 := T14.under b5 T14.lt
            replace RA2 := RA2.ext b5
            obtain ⟨U, hU⟩ : ∃ U, w5.alloc (.cells #[.slice A3 (thR e 2 rows).length c3] 26) = U := ⟨_, rfl⟩
            rw [hU] at RA3 T16 BPU B3U T14 RA2
            have HU := Lib.hid hU
            clear own3 hb5 b5 BP4 B34 k5 k14 hU QT4
            generalize hm16 : w5.heap.size = m16 at *
            have HM := Lib.hid hm16
            clear hm16
            generalize w4.heap.size = m14 at *
            go_upto_region 19 with fail
            rw [HU.out, HM.out]
            clear HU HM
            have KK : Hid (∀ V, Below U.heap.size U V → V.cell? ⟨w1.heap.size, 0, none⟩ = some (.slice (some ⟨g1, 0, none⟩) rows.length c1) ∧ V.cell? ⟨m14, 0, none⟩ = some (.slice A2 (thR e 2 rows).length c2) ∧ V.cell? ⟨m16, 0, none⟩ = some (.slice A3 (thR e 2 rows).length c3) ∧ Rd V A2 (strs (thR e 2 rows)) ∧ Rd V A3 (strs (thR e 2 rows)) ∧ Below wp.heap.size wp V ∧ Below w3.heap.size w3 V) := fun V hb =>
              have bp := Ext.then_ BPU hb
              ⟨(K5.out V bp).1, (hb.cell (p := ⟨m14, 0, none⟩) T14.lt).trans (by simpa using T14.cell 0), (hb.cell (p := ⟨m16, 0, none⟩) T16.lt).trans (by simpa using T16.cell 0), RA2.ext hb, RA3.ext hb, bp, Ext.then_ B3U hb⟩
            clear T14 T16 RA2 RA3 BPU B3U
            obtain ⟨k5, k14, k16, ra, rb, bp, b3⟩ := KK.out U (Ext.refl _)
            go_wp2_with fail
            refine (QA1.out.comp U A2 c2 ra).mono ?_
            rintro e' w6 ⟨v6, rfl, hb6⟩
            clear k5 k14 k16 ra rb bp b3
            obtain ⟨k5, k14, k16, ra, rb, bp, b3⟩ := KK.out w6 hb6
            go_wp2_with fail
            refine (QA1.out.hole w6 A2 c2 ra).mono ?_
            rintro e' w7 ⟨rfl, hb7⟩
            have B7 := Ext.then_ hb6 hb7
            clear k5 k14 k16 ra rb bp b3 hb6 hb7
            obtain ⟨k5, k14, k16, ra, rb, bp, b3⟩ := KK.out w7 B7
            go_wp2_with fail
            refine (QA1.out.twice w7 A2 c2 A3 c3 ra rb).mono ?_
            rintro e' w8 ⟨rfl, hb8⟩
            have B8 := Ext.then_ B7 hb8
            clear k5 k14 k16 ra rb bp b3 hb8 B7
            obtain ⟨k5, k14, k16, ra, rb, bp, b3⟩ := KK.out w8 B8
            go_wp2_with fail
            refine (QA1.out.inside w8 A2 c2 bp ra).mono ?_
            rintro e' w9 ⟨rfl, hb9⟩
            have B9 := Ext.then_ B8 hb9
            clear k5 k14 k16 ra rb bp b3 hb9 B8
            obtain ⟨k5, k14, k16, ra, rb, bp, b3⟩ := KK.out w9 B9
            cases e
            · clear k5 k16 ra rb bp
              go_wp2_with fail
              exact ⟨⟨kd + 1, by omega, by go_num, b3⟩, by simp [intOf]; omega⟩
            · have SM := Lib.hid (QA1.out.same rfl w9 A2 c2 bp ra)
              clear ra rb bp b3
              go_wp2_with fail
              refine SM.out.mono ?_
              rintro e' w10 ⟨rfl, hb10⟩
              have B10 := Ext.then_ B9 hb10
              clear k5 k14 k16 hb10 B9 SM
              obtain ⟨k5, k14, k16, ra, rb, bp, b3⟩ := KK.out w10 B10
              clear k5 k14 k16 ra rb bp
              go_wp2_with fail
              exact ⟨⟨kd + 1, by omega, by go_num, b3⟩, by simp [intOf]; omega⟩
            
          · have k5 := (K5.out wr BP).1
            go_wp2_with fail
            refine (PT.out e wr BP).mono ?_
            rintro e' w4 ⟨A0, c0, rfl, own0, hb4⟩
            have T14 := Blk.made w4 26 #[.slice A0 (thR e 2 rows).length c0]
            have BP4 := Ext.more (Ext.then_ BP hb4) (.cells #[.slice A0 (thR e 2 rows).length c0] 26)
            have B34 := Ext.more (Ext.then_ B3 hb4) (.cells #[.slice A0 (thR e 2 rows).length c0] 26)
            have z4 : wp.heap.size ≤ w4.heap.size ∧ w3.heap.size ≤ w4.heap.size := ⟨(Ext.then_ BP hb4).size, (Ext.then_ B3 hb4).size⟩
            clear k5 own0 hb4
            have k5 := (K5.out _ BP4).1
            have PS4 := Lib.hid (PS.out e _ BP4)
            go_wp2_with fail
            refine PS4.out.mono ?_
            rintro e' w5 ⟨A2, c2, rfl, own2, hb5⟩
            replace T14 := T14.under hb5 T14.lt
            have c14 := T14.cell 0
            have f14 := T14.free 0
            simp at c14
            have RA2 := Rd.of_own (ownsRow_setCell_below own2 (a := ⟨w4.heap.size, 0, none⟩) (by simp) (.slice A2 (thR e 0 rows).length c2))
            replace T14 := T14.store 0 (.slice A2 (thR e 0 rows).length c2)
            have BP5 := (Ext.then_ BP4 hb5).setCell (p := ⟨w4.heap.size, 0, none⟩) z4.1 (.slice A2 (thR e 0 rows).length c2)
            have B35 := (Ext.then_ B34 hb5).setCell (p := ⟨w4.heap.size, 0, none⟩) z4.2 (.slice A2 (thR e 0 rows).length c2)
            clear k5 own2 hb5 BP4 B34 PS4 z4
            obtain ⟨V, hV⟩ : ∃ V, w5.setCell ⟨w4.heap.size, 0, none⟩ (.slice A2 (thR e 0 rows).length c2) = V := ⟨_, rfl⟩
            rw [hV] at RA2 T14 BP5 B35
            have HV := Lib.hid hV
            clear hV
            generalize hm14 : w4.heap.size = m14 at *
            have HM := Lib.hid hm14
            clear hm14
            go_upto_region 18 with fail
            rw [HV.out]
            clear HM HV c14 f14
            have k14 := T14.cell 0
            have k5 := (K5.out V BP5).1
            simp at k14
            have QX4 := Lib.hid (QX.out e V A2 c2 RA2)
            go_wp2_with fail
            refine QX4.out.mono ?_
            rintro e' w6 ⟨A1x, c1x, rfl, own6, hb6⟩
            have T16 := Blk.made w6 26 #[.slice A1x (thR e 2 (thR e 0 rows)).length c1x]
            have b6 := Ext.more hb6 (.cells #[.slice A1x (thR e 2 (thR e 0 rows)).length c1x] 26)
            have z6 := hb6.size
            have t14 := T14.lt
            replace T14 := T14.under b6 T14.lt
            have RA2v := RA2
            replace RA2 := RA2.ext b6
            have BP6 := Ext.then_ BP5 b6
            have B36 := Ext.then_ B35 b6
            have zp := BP5.size
            have z3 := B35.size
            clear own6 hb6 k14 k5 QX4
            have k14 := T14.cell 0
            have k5 := (K5.out _ BP6).1
            simp at k14
            have QS4 := Lib.hid (QS.out e _ A2 c2 RA2)
            go_wp2_with fail
            refine QS4.out.mono ?_
            rintro e' w7 ⟨A3, c3, rfl, own7, hb7⟩
            have n1416 : m14 ≠ w6.heap.size := by omega
            replace T14 := T14.under hb7 T14.lt
            replace T16 := T16.under hb7 T16.lt
            have c16 := T16.cell 0
            have f16 := T16.free 0
            simp at c16
            have RA3 := Rd.of_own (ownsRow_setCell_below own7 (a := ⟨w6.heap.size, 0, none⟩) (by simp) (.slice A3 (thR e 0 rows).length c3))
            replace T16 := T16.store 0 (.slice A3 (thR e 0 rows).length c3)
            replace T14 := T14.apart (p := ⟨w6.heap.size, 0, none⟩) n1416 (.slice A3 (thR e 0 rows).length c3)
            have b7 := (Ext.then_ b6 hb7).setCell (p := ⟨w6.heap.size, 0, none⟩) z6 (.slice A3 (thR e 0 rows).length c3)
            replace RA2 := RA2v.ext b7
            have BPU := Ext.then_ BP5 b7
            have B3U := Ext.then_ B35 b7
            obtain ⟨U, hU⟩ : ∃ U, w7.setCell ⟨w6.heap.size, 0, none⟩ (.slice A3 (thR e 0 rows).length c3) = U := ⟨_, rfl⟩
            rw [hU] at RA2 RA3 T14 T16 BPU B3U
            have HU := Lib.hid hU
            clear hU b7 b6 hb7 own7 RA2v BP5 B35 BP6 B36 zp z3 z6 t14 n1416 k14 k5 QS4
            simp at T14 T16
            generalize w6.heap.size = m16 at *
            go_upto_region 21 with fail
            rw [HU.out]
            clear HU c16 f16
            have KK : Hid (∀ V, Below U.heap.size U V → V.cell? ⟨w1.heap.size, 0, none⟩ = some (.slice (some ⟨g1, 0, none⟩) rows.length c1) ∧ V.cell? ⟨m14, 0, none⟩ = some (.slice A2 (thR e 0 rows).length c2) ∧ V.cell? ⟨m16, 0, none⟩ = some (.slice A3 (thR e 0 rows).length c3) ∧ Rd V A2 (strs (thR e 0 rows)) ∧ Rd V A3 (strs (thR e 0 rows)) ∧ Below wp.heap.size wp V ∧ Below w3.heap.size w3 V) := fun V hb =>
              have bp := Ext.then_ BPU hb
              ⟨(K5.out V bp).1, (hb.cell (p := ⟨m14, 0, none⟩) T14.lt).trans (by simpa using T14.cell 0), (hb.cell (p := ⟨m16, 0, none⟩) T16.lt).trans (by simpa using T16.cell 0), RA2.ext hb, RA3.ext hb, bp, Ext.then_ B3U hb⟩
            clear T14 T16 RA2 RA3 BPU B3U
            obtain ⟨k5, k14, k16, ra, rb, bp, b3⟩ := KK.out U (Ext.refl _)
            go_wp2_with fail
            refine (QB1.out.comp U A2 c2 ra).mono ?_
            rintro e' w6 ⟨v6, rfl, hb6⟩
            clear k5 k14 k16 ra rb bp b3
            obtain ⟨k5, k14, k16, ra, rb, bp, b3⟩ := KK.out w6 hb6
            go_wp2_with fail
            refine (QB1.out.hole w6 A2 c2 ra).mono ?_
            rintro e' w7 ⟨rfl, hb7⟩
            have B7 := Ext.then_ hb6 hb7
            clear k5 k14 k16 ra rb bp b3 hb6 hb7
            obtain ⟨k5, k14, k16, ra, rb, bp, b3⟩ := KK.out w7 B7
            go_wp2_with fail
            refine (QB1.out.twice w7 A2 c2 A3 c3 ra rb).mono ?_
            rintro e' w8 ⟨rfl, hb8⟩
            have B8 := Ext.then_ B7 hb8
            clear k5 k14 k16 ra rb bp b3 hb8 B7
            obtain ⟨k5, k14, k16, ra, rb, bp, b3⟩ := KK.out w8 B8
            go_wp2_with fail
            refine (QB1.out.inside w8 A2 c2 bp ra).mono ?_
            rintro e' w9 ⟨rfl, hb9⟩
            have B9 := Ext.then_ B8 hb9
            clear k5 k14 k16 ra rb bp b3 hb9 B8
            obtain ⟨k5, k14, k16, ra, rb, bp, b3⟩ := KK.out w9 B9
            cases e
            · clear k5 k16 ra rb bp
              go_wp2_with fail
              exact ⟨⟨kd + 1, by omega, by go_num, b3⟩, by simp [intOf]; omega⟩
            · have SM := Lib.hid (QB1.out.same rfl w9 A2 c2 bp ra)
              clear ra rb bp b3
              go_wp2_with fail
              refine SM.out.mono ?_
              rintro e' w10 ⟨rfl, hb10⟩
              have B10 := Ext.then_ B9 hb10
              clear k5 k14 k16 hb10 B9 SM
              obtain ⟨k5, k14, k16, ra, rb, bp, b3⟩ := KK.out w10 B10
              clear k5 k14 k16 ra rb bp
              go_wp2_with fail
              exact ⟨⟨kd + 1, by omega, by go_num, b3⟩, by simp [intOf]; omega⟩
            

        · obtain rfl : kd = 2 := by omega
          have k6 := K5.out wr BP
          have lw1 : w1.heap.size < wr.heap.size := Nat.lt_of_lt_of_le T5L BP.size
          have lg1 : g1 < wr.heap.size := Nat.lt_of_lt_of_le HG1 BP.size
          have BWR := Lib.hid (Ext.then_ BW.out BP)
          have i00 : (0 : Int) < (rows.length : Int) := by omega
          have SS := Lib.hid (fun V (hb : Below wr.heap.size wr V) => (show Below wr.heap.size wr V ∧ V.cell? ⟨w1.heap.size, 0, none⟩ = some (.slice (some ⟨g1, 0, none⟩) rows.length c1) ∧ V.cell? ⟨g1, 0, none⟩ = some (.string str) from
            ⟨hb, (hb.cell (p := ⟨w1.heap.size, 0, none⟩) lw1).trans k6.1, (hb.cell (p := ⟨g1, 0, none⟩) lg1).trans k6.2⟩))
          clear QA1 QB1 PT PS QT QX QS hlk hkd B3
          go_wp2_with fail
          clear k6
          go_region_held3 (fun V => Below wr.heap.size wr V ∧ V.cell? ⟨w1.heap.size, 0, none⟩ = some (.slice (some ⟨g1, 0, none⟩) rows.length c1) ∧ V.cell? ⟨g1, 0, none⟩ = some (.string str))
            (first | exact SS.out _ (Ext.draw (Ext.refl _)) | exact SS.out _ (Ext.more (Ext.draw (Ext.refl _)) _) | exact SS.out _ (Ext.draw (Ext.more (Ext.refl _) _)) | go_keep)
            (first
              | (go_at_call_of 13 (Value.int .i64 (str.size : Int)); refine (AT.out 0 (by omega) str.size S0.1 S0.2 _ (by first | exact Ext.draw BWR.out | exact Ext.more (Ext.draw BWR.out) _ | exact Ext.draw (Ext.more BWR.out _))).mono ?_; rintro e' w' ⟨⟨fx, hfx, rfl⟩, rfl⟩)
              | (go_at_call_of 13 (Value.int .i64 (rows.length : Int)); refine (AT.out 1 (by omega) rows.length s1 s2 _ (by first | exact Ext.draw BWR.out | exact Ext.more (Ext.draw BWR.out) _ | exact Ext.draw (Ext.more BWR.out _))).mono ?_; rintro e' w' ⟨⟨fy, hfy, rfl⟩, rfl⟩))
          all_goals as_aux_lemma =>
            have BX : Below wr.heap.size wr ((wr.alloc (.cells #[.int .i64 fx, .int .i64 fy] 38)).drew) := Ext.draw (Ext.more (Ext.refl _) _)
            have XB : Blk ((wr.alloc (.cells #[.int .i64 fx, .int .i64 fy] 38)).drew) wr.heap.size 38 #[.int .i64 fx, .int .i64 fy] := Blk.made wr _ _
            have BB := Ext.then_ BP BX
            clear SS BWR lw1 lg1 BX BP AT BW
            generalize (wr.alloc (.cells #[.int .i64 fx, .int .i64 fy] 38)).drew = wB at *
            have KX : Hid (∀ V, Below wB.heap.size wB V → V.cell? ⟨w1.heap.size, 0, none⟩ = some (.slice (some ⟨g1, 0, none⟩) rows.length c1) ∧ V.cell? ⟨wr.heap.size, 0, none⟩ = some (.int .i64 fx) ∧ V.cell? ⟨wr.heap.size, 1, none⟩ = some (.int .i64 fy) ∧ Below wp.heap.size wp V) := fun V hb =>
              ⟨(K5.out V (Ext.then_ BB hb)).1, (hb.cell (p := ⟨wr.heap.size, 0, none⟩) XB.lt).trans (by simpa using XB.cell 0), (hb.cell (p := ⟨wr.heap.size, 1, none⟩) XB.lt).trans (by simpa using XB.cell 1), Ext.then_ BB hb⟩
            clear BB XB K5
            generalize wr.heap.size = ma at *
            obtain ⟨k5, x0, x1, bp⟩ := KX.out wB (Ext.refl _)
            cases hs : simpT rows e fx fy
            · have IS2 := Lib.hid (IS1.out fx fy hfx hfy wB bp)
              rw [hs] at IS2
              clear bp IS1 SP QR1 BK1 hs
              go_wp2_with fail
              refine IS2.out.mono ?_
              rintro e' w4 ⟨rfl, hb4⟩
              obtain ⟨_, _, _, bp4⟩ := KX.out w4 hb4
              clear IS2 hb4 KX k5 x0 x1
              go_wp2_with fail
              exact ⟨⟨k + 1, by omega, by go_num, bp4⟩, by simp [intOf]; omega⟩
            · have IS2 := Lib.hid (IS1.out fx fy hfx hfy wB bp)
              have QR2 := Lib.hid (QR1.out fx fy hfx hfy hs)
              have BK2 := Lib.hid (BK1.out fx fy hs)
              have SP2 := Lib.hid (SP.out fx fy hfx hfy)
              rw [hs] at IS2
              clear bp IS1 SP QR1 BK1 hs
              go_wp2_with fail
              refine IS2.out.mono ?_
              rintro e' w4 ⟨rfl, hb4⟩
              clear k5 x0 x1 IS2
              obtain ⟨k5, x0, x1, bp⟩ := KX.out w4 hb4
              go_wp2_with fail
              refine (SP2.out w4 bp).mono ?_
              rintro e' w5 ⟨A2, c2, rfl, own2, hb5⟩
              have B5 := Ext.more (Ext.then_ hb4 hb5) (.cells #[.slice A2 (setR rows fx fy false).length c2] 26)
              have T24 := Blk.made w5 26 #[.slice A2 (setR rows fx fy false).length c2]
              have RA2 := (Rd.of_own own2).ext (Ext.more (Ext.refl w5) (.cells #[.slice A2 (setR rows fx fy false).length c2] 26))
              obtain ⟨U, hU⟩ : ∃ U, w5.alloc (.cells #[.slice A2 (setR rows fx fy false).length c2] 26) = U := ⟨_, rfl⟩
              rw [hU] at B5 T24 RA2
              have HU := Lib.hid hU
              have KY : Hid (∀ V, Below U.heap.size U V → V.cell? ⟨w1.heap.size, 0, none⟩ = some (.slice (some ⟨g1, 0, none⟩) rows.length c1) ∧ V.cell? ⟨ma, 0, none⟩ = some (.int .i64 fx) ∧ V.cell? ⟨ma, 1, none⟩ = some (.int .i64 fy) ∧ Below wp.heap.size wp V ∧ V.cell? ⟨w5.heap.size, 0, none⟩ = some (.slice A2 (setR rows fx fy false).length c2) ∧ Rd V A2 (strs (setR rows fx fy false))) := fun V hb =>
                have ⟨h1, h2, h3, h4⟩ := KX.out V (Ext.then_ B5 hb)
                ⟨h1, h2, h3, h4, (hb.cell (p := ⟨w5.heap.size, 0, none⟩) T24.lt).trans (by simpa using T24.cell 0), RA2.ext hb⟩
              clear k5 x0 x1 bp SP2 hb4 hb5 own2 hU B5 T24 RA2 KX
              generalize setR rows fx fy false = R at *
              go_upto_region 28 with fail
              rw [HU.out]
              clear HU
              generalize w5.heap.size = m24 at *
              obtain ⟨k5, x0, x1, bp, k24, ra⟩ := KY.out U (Ext.refl _)
              go_wp2_with fail
              refine (QR2.out.comp U A2 c2 ra).mono ?_
              rintro e' w6 ⟨v6, rfl, hb6⟩
              clear k5 x0 x1 bp k24 ra
              obtain ⟨k5, x0, x1, bp, k24, ra⟩ := KY.out w6 hb6
              go_wp2_with fail
              refine (QR2.out.hole w6 A2 c2 ra).mono ?_
              rintro e' w7 ⟨rfl, hb7⟩
              have B7 := Ext.then_ hb6 hb7
              clear k5 x0 x1 bp k24 ra hb6 hb7
              obtain ⟨k5, x0, x1, bp, k24, ra⟩ := KY.out w7 B7
              have BK3 := Lib.hid (BK2.out w7 bp)
              clear QR2 BK2 bp ra
              go_wp2_with fail
              refine BK3.out.mono ?_
              rintro e' w8 ⟨rfl, hb8⟩
              obtain ⟨_, _, _, bp8, _, _⟩ := KY.out w8 (Ext.then_ B7 hb8)
              clear k5 x0 x1 k24 KY B7 hb8 BK3
              go_wp2_with fail
              exact ⟨⟨k + 1, by omega, by go_num, bp8⟩, by simp [intOf]; omega⟩
    · obtain rfl : k = 2 := by omega
      have FIN := Lib.hid (Ext.then_ BW.out hb)
      clear hb
      go_wp2_with fail
      go_ret
      exact ⟨rfl, FIN.out⟩
end Go.Proofs.YtdhajndmebnknaaGreat
