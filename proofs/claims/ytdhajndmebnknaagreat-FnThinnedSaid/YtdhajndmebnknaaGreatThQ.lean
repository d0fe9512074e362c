/- Thinned and shrunk pictures, pixels that are set, pictures inside others: the program's. Printed by gen_thq.py. -/
import Derived.Test.YtdhajndmebnknaaGreatThn
import Derived.Test.YtdhajndmebnknaaGreatTrnP
namespace Go.Proofs.YtdhajndmebnknaaGreat
open Go.RowKit

/-- The rows of a thinned picture. -/
noncomputable def thR (e : Bool) (least : Int) (rows : List ByteArray) : List ByteArray := rowsTo (thinL e least (picW rows) rows.length (picBits rows)) (picW rows) rows.length
theorem enters_thinPic1 : Enters 26 := enters_of Tryz.func26 (by kernel_rfl) (by kernel_rfl)
set_option maxRecDepth 100000 in
set_option maxHeartbeats 1000000 in
theorem thinPic1_any (p g W H m : Nat) (L : List Bool) (e : Bool) (w : World) (h : Img w p g W H L) (T : Blk w m 4 #[.bool e]) (hW : W ≤ 16) (hH : H ≤ 16) :
    Calls Tryz.prog 26 (#[.pointer (some ⟨p, 0, none⟩)] ++ #[.pointer (some ⟨m, 0, none⟩)]) w fun e' w' => (∃ p' g' cap sp, e' = .returned (.pointer (some ⟨p', 0, none⟩)) ∧ ImgG w' p' g' cap sp W H (thinL e 2 W H L)) ∧ Below w.heap.size w w' := by
  have O := Lib.hid (thinned_any p g W H L e 2 w h hW hH)
  have k := T.cell 0
  simp at k
  clear h T
  go_enter Tryz.func26, Tryz.ntmps26
  go_wp2_with fail
  refine O.out.mono ?_
  rintro e' w3 ⟨p', g', cap, sp, rfl, hI, _, _, hb⟩
  have HO := Lib.hid (And.intro hI hb)
  clear O hI hb
  go_wp2_with fail
  go_ret
  exact ⟨⟨p', g', cap, sp, rfl, HO.out.1⟩, HO.out.2⟩
set_option maxRecDepth 100000 in
set_option maxHeartbeats 1000000 in
theorem thinPicture_any (A : Option Addr) (cc : Nat) (rows : List ByteArray) (e : Bool) (w : World) (h : Rd w A (strs rows)) (hp : picOk rows = true) :
    Calls Tryz.prog 8 #[.agg #[.slice A rows.length cc], .bool e] w (PicRes w (thR e 2 rows) true) := by
  obtain ⟨s1, s2, s3, s4⟩ := picOk_sizes hp
  have B3 := Ext.more (Ext.more (Ext.more (Ext.refl w) (.cells #[.slice A rows.length cc] 26)) (.cells #[.bool e] 4)) (.cells #[.slice none 0 0] 26)
  have T3 := (Blk.made (w.alloc (.cells #[.slice A rows.length cc] 26)) 4 #[.bool e]).more (.cells #[.slice none 0 0] 26)
  have R3 := Blk.made ((w.alloc (.cells #[.slice A rows.length cc] 26)).alloc (.cells #[.bool e] 4)) 26 #[.slice none 0 0]
  have P3 := ((Blk.made w 26 #[.slice A rows.length cc]).more (.cells #[.bool e] 4)).more (.cells #[.slice none 0 0] 26)
  obtain ⟨V, hV⟩ : ∃ V, ((w.alloc (.cells #[.slice A rows.length cc] 26)).alloc (.cells #[.bool e] 4)).alloc (.cells #[.slice none 0 0] 26) = V := ⟨_, rfl⟩
  rw [hV] at B3 T3 R3 P3
  have cP := P3.cell 0
  simp at cP
  simp only [World.size_alloc] at T3 R3
  have WI : Hid (Calls Tryz.prog 25 #[.agg #[.slice A rows.length cc], .func (.func 26) #[] #[.pointer (some ⟨w.heap.size + 1, 0, none⟩)]] V (PicRes V (thR e 2 rows) true)) := by
    have := withImage_anyG A cc rows 26 #[.pointer (some ⟨w.heap.size + 1, 0, none⟩)] (picW rows) rows.length (thinL e 2 (picW rows) rows.length (picBits rows)) V (h.ext B3) (by omega) (by omega) (by omega) enters_thinPic1
      (fun _ p g wr hwr hI => thinPic1_any p g _ _ (w.heap.size + 1) _ e wr hI (T3.under hwr T3.lt) s4 s2)
    rw [hp] at this
    exact this
  have hmf : ∀ (fn : Fn) (first cap : Array Value) (w : World), (Instr.makeFunc fn first cap).run Tryz.prog w = .ok (.func fn first cap) w := fun _ _ _ _ => rfl
  have HV := Lib.hid hV
  have HB3 := Lib.hid B3
  have zV := B3.size
  have HR3 := Lib.hid R3
  have rlt := R3.lt
  clear hV h hp s1 s2 s3 s4 T3 R3 B3 P3
  generalize thR e 2 rows = R at *
  go_enter Tryz.func8, Tryz.ntmps8
  go_upto_region 1 with fail
  rw [HV.out]
  go_wp2_with fail
  refine WI.out.mono ?_
  rintro e w3 ⟨A', c', rfl, hown, hb3⟩
  have R4 := HR3.out.under hb3 rlt
  have c3 := R4.cell 0
  have f3 := R4.free 0
  have cs := (R4.store 0 (.slice A' R.length c')).cell 0
  simp at c3 cs
  have r4lt := R4.lt
  have PR : Hid (PicRes w R true (.returned (.tuple #[.agg #[.slice A' R.length c'], .bool true])) (w3.setCell ⟨w.heap.size + 1 + 1, 0, none⟩ (.slice A' R.length c'))) := by
    refine ⟨A', c', rfl, ?_, ?_⟩
    · exact own_base (ownsRow_setCell_below hown (a := ⟨w.heap.size + 1 + 1, 0, none⟩) (by show w.heap.size + 1 + 1 < V.heap.size; exact rlt) _) (by omega)
    · exact (Ext.then_ HB3.out hb3).setCell (p := ⟨w.heap.size + 1 + 1, 0, none⟩) (by show w.heap.size ≤ w.heap.size + 1 + 1; omega) _
  clear hown hb3 R4 HR3 HB3 HV
  go_wp2_with fail
  refine bodyPost_ret (v := .tuple #[.agg #[.slice A' R.length c'], .bool true]) (by simp [results, Tryz.results8, go_sem, cs]) rfl PR.out
theorem enters_shrinkPic1 : Enters 28 := enters_of Tryz.func28 (by kernel_rfl) (by kernel_rfl)
set_option maxRecDepth 100000 in
set_option maxHeartbeats 1000000 in
theorem shrinkPic1_any (p g W H m : Nat) (L : List Bool) (e : Bool) (w : World) (h : Img w p g W H L) (T : Blk w m 4 #[.bool e]) (hW : W ≤ 16) (hH : H ≤ 16) :
    Calls Tryz.prog 28 (#[.pointer (some ⟨p, 0, none⟩)] ++ #[.pointer (some ⟨m, 0, none⟩)]) w fun e' w' => (∃ p' g' cap sp, e' = .returned (.pointer (some ⟨p', 0, none⟩)) ∧ ImgG w' p' g' cap sp W H (thinL e 0 W H L)) ∧ Below w.heap.size w w' := by
  have O := Lib.hid (thinned_any p g W H L e 0 w h hW hH)
  have k := T.cell 0
  simp at k
  clear h T
  go_enter Tryz.func28, Tryz.ntmps28
  go_wp2_with fail
  refine O.out.mono ?_
  rintro e' w3 ⟨p', g', cap, sp, rfl, hI, _, _, hb⟩
  have HO := Lib.hid (And.intro hI hb)
  clear O hI hb
  go_wp2_with fail
  go_ret
  exact ⟨⟨p', g', cap, sp, rfl, HO.out.1⟩, HO.out.2⟩
set_option maxRecDepth 100000 in
set_option maxHeartbeats 1000000 in
theorem shrinkPicture_any (A : Option Addr) (cc : Nat) (rows : List ByteArray) (e : Bool) (w : World) (h : Rd w A (strs rows)) (hp : picOk rows = true) :
    Calls Tryz.prog 9 #[.agg #[.slice A rows.length cc], .bool e] w (PicRes w (thR e 0 rows) true) := by
  obtain ⟨s1, s2, s3, s4⟩ := picOk_sizes hp
  have B3 := Ext.more (Ext.more (Ext.more (Ext.refl w) (.cells #[.slice A rows.length cc] 26)) (.cells #[.bool e] 4)) (.cells #[.slice none 0 0] 26)
  have T3 := (Blk.made (w.alloc (.cells #[.slice A rows.length cc] 26)) 4 #[.bool e]).more (.cells #[.slice none 0 0] 26)
  have R3 := Blk.made ((w.alloc (.cells #[.slice A rows.length cc] 26)).alloc (.cells #[.bool e] 4)) 26 #[.slice none 0 0]
  have P3 := ((Blk.made w 26 #[.slice A rows.length cc]).more (.cells #[.bool e] 4)).more (.cells #[.slice none 0 0] 26)
  obtain ⟨V, hV⟩ : ∃ V, ((w.alloc (.cells #[.slice A rows.length cc] 26)).alloc (.cells #[.bool e] 4)).alloc (.cells #[.slice none 0 0] 26) = V := ⟨_, rfl⟩
  rw [hV] at B3 T3 R3 P3
  have cP := P3.cell 0
  simp at cP
  simp only [World.size_alloc] at T3 R3
  have WI : Hid (Calls Tryz.prog 25 #[.agg #[.slice A rows.length cc], .func (.func 28) #[] #[.pointer (some ⟨w.heap.size + 1, 0, none⟩)]] V (PicRes V (thR e 0 rows) true)) := by
    have := withImage_anyG A cc rows 28 #[.pointer (some ⟨w.heap.size + 1, 0, none⟩)] (picW rows) rows.length (thinL e 0 (picW rows) rows.length (picBits rows)) V (h.ext B3) (by omega) (by omega) (by omega) enters_shrinkPic1
      (fun _ p g wr hwr hI => shrinkPic1_any p g _ _ (w.heap.size + 1) _ e wr hI (T3.under hwr T3.lt) s4 s2)
    rw [hp] at this
    exact this
  have hmf : ∀ (fn : Fn) (first cap : Array Value) (w : World), (Instr.makeFunc fn first cap).run Tryz.prog w = .ok (.func fn first cap) w := fun _ _ _ _ => rfl
  have HV := Lib.hid hV
  have HB3 := Lib.hid B3
  have zV := B3.size
  have HR3 := Lib.hid R3
  have rlt := R3.lt
  clear hV h hp s1 s2 s3 s4 T3 R3 B3 P3
  generalize thR e 0 rows = R at *
  go_enter Tryz.func9, Tryz.ntmps9
  go_upto_region 1 with fail
  rw [HV.out]
  go_wp2_with fail
  refine WI.out.mono ?_
  rintro e w3 ⟨A', c', rfl, hown, hb3⟩
  have R4 := HR3.out.under hb3 rlt
  have c3 := R4.cell 0
  have f3 := R4.free 0
  have cs := (R4.store 0 (.slice A' R.length c')).cell 0
  simp at c3 cs
  have r4lt := R4.lt
  have PR : Hid (PicRes w R true (.returned (.tuple #[.agg #[.slice A' R.length c'], .bool true])) (w3.setCell ⟨w.heap.size + 1 + 1, 0, none⟩ (.slice A' R.length c'))) := by
    refine ⟨A', c', rfl, ?_, ?_⟩
    · exact own_base (ownsRow_setCell_below hown (a := ⟨w.heap.size + 1 + 1, 0, none⟩) (by show w.heap.size + 1 + 1 < V.heap.size; exact rlt) _) (by omega)
    · exact (Ext.then_ HB3.out hb3).setCell (p := ⟨w.heap.size + 1 + 1, 0, none⟩) (by show w.heap.size ≤ w.heap.size + 1 + 1; omega) _
  clear hown hb3 R4 HR3 HB3 HV
  go_wp2_with fail
  refine bodyPost_ret (v := .tuple #[.agg #[.slice A' R.length c'], .bool true]) (by simp [results, Tryz.results9, go_sem, cs]) rfl PR.out
set_option maxRecDepth 100000 in
set_option maxHeartbeats 1000000 in
theorem withImage_anyM (A : Option Addr) (c : Nat) (rows : List ByteArray) (K : FuncId) (caps : Array Value) (W' H' : Nat) (L' : List Bool) (w : World) (h : Rd w A (strs rows)) (hn : rows.length ≤ 1000000000) (hW : W' ≤ 1000) (hH : H' ≤ 1000) (hK : Enters K) (hp : picOk rows = true)
    (hF : ∀ p g wr, Below w.heap.size w wr → w.heap.size + 1 + 1 ≤ g → Img wr p g (picW rows) rows.length (picBits rows) → Calls Tryz.prog K (#[.pointer (some ⟨p, 0, none⟩)] ++ caps) wr fun e w' => (∃ p' g' cap sp, e = .returned (.pointer (some ⟨p', 0, none⟩)) ∧ ImgG w' p' g' cap sp W' H' L') ∧ Below (w.heap.size + 1 + 1) wr w') :
    Calls Tryz.prog 25 #[.agg #[.slice A rows.length c], .func (.func K) #[] caps] w (PicRes w (rowsTo L' W' H') true) := by
  unfold Enters at hK
  have IH := Lib.hid (fun (V : World) (hh : Rd V A (strs rows)) => (imageOf_any A c rows V hh hn).mono (fun e w' hI => (show (∃ p g, e = .returned (.tuple #[.pointer (some ⟨p, 0, none⟩), .bool true]) ∧ Img w' p g (picW rows) rows.length (picBits rows) ∧ V.heap.size ≤ g) ∧ Below V.heap.size V w' from ⟨(hI.yes hp).elim fun p h => h.elim fun g h => ⟨p, g, h.1, h.2.1, h.2.2.2⟩, hI.ext⟩)))
  have FH := Lib.hid hF
  have TH := Lib.hid (fun (p g cap : Nat) (sp : List Value) (V : World) (hh : ImgG V p g cap sp W' H' L') => told_anyG p g cap sp W' H' L' V hh hW hH)
  clear hF hp
  show Calls _ _ _ _ (PicRes w (rowsTo L' W' H') true)
  have hlen : (rowsTo L' W' H').length = H' := rowsTo_length _ _ _
  have PR : Hid (∀ (A' : Option Addr) (c' : Nat) (w' : World), w'.ownsRow w.heap.size 9 1 (.slice A' H' c') H' (strs (rowsTo L' W' H')) → Below w.heap.size w w' → PicRes w (rowsTo L' W' H') true (.returned (.tuple #[.agg #[.slice A' H' c'], .bool true])) w') := by
    intro A' c' w' h1 h2
    refine ⟨A', c', ?_, ?_, h2⟩
    · rw [hlen]
    · rw [hlen]; exact h1
  clear hlen
  go_enter Tryz.func25, Tryz.ntmps25
  go_wp2_with fail
  refine (IH.out _ (h.ext (Ext.more (Ext.more (Ext.refl _) _) _))).mono ?_
  rintro e w1 ⟨⟨p, g, rfl, hm, hgg⟩, hb⟩
  simp only [World.size_alloc] at hgg
  have hb1 := Ext.then_ (Ext.more (Ext.more (Ext.refl w) (.cells #[.slice A rows.length c] 26)) (.cells #[.slice none 0 0] 26)) hb
  have F := Lib.hid (FH.out p g w1 hb1 hgg hm)
  go_wp2_with fail
  refine F.out.mono ?_
  rintro e w2 ⟨⟨p', g', cap', sp', rfl, hm2⟩, hb2⟩
  have hb12 : Below w.heap.size w w2 := hb1.trans (hb2.mono (by omega))
  go_wp2_with fail
  refine (TH.out p' g' cap' sp' _ hm2).mono ?_
  rintro e w3 ⟨A', c', rfl, hown, hb3⟩
  have hB0 : Blk ((w.alloc (.cells #[.slice A rows.length c] 26)).alloc (.cells #[.slice none 0 0] 26)) (w.heap.size + 1) 26 #[.slice none 0 0] := by
    have := Blk.made (w.alloc (.cells #[.slice A rows.length c] 26)) 26 #[.slice none 0 0]
    simpa using this
  have hB1 := hB0.under hb hB0.lt
  have hB2 := hB1.under hb2 (by omega)
  have hB3 := hB2.under hb3 hB2.lt
  have c3 := hB3.cell 0
  have f3 := hB3.free 0
  have cs := (hB3.store 0 (.slice A' H' c')).cell 0
  simp at c3 cs
  have hlt := hB2.lt
  go_wp2_with fail
  refine bodyPost_ret (v := .tuple #[.agg #[.slice A' H' c'], .bool true]) (by simp [results, Tryz.results25, go_sem, cs]) rfl (PR.out A' c' _ ?_ ?_)
  · exact own_base (ownsRow_setCell_below hown (a := ⟨w.heap.size + 1, 0, none⟩) (by show w.heap.size + 1 < w2.heap.size; omega) _) (by omega)
  · exact (Ext.then_ hb12 hb3).setCell (p := ⟨w.heap.size + 1, 0, none⟩) (by show w.heap.size ≤ w.heap.size + 1; omega) _
theorem enters_setPix1 : Enters 34 := enters_of Tryz.func34 (by kernel_rfl) (by kernel_rfl)
set_option maxRecDepth 100000 in
set_option maxHeartbeats 1000000 in
theorem setPix1_any (p g W H m1 m2 m3 : Nat) (L : List Bool) (x y : Nat) (b : Bool) (B : Nat) (w : World) (h : Img w p g W H L) (T1 : Blk w m1 2 #[.int .i64 x]) (T2 : Blk w m2 2 #[.int .i64 y]) (T3 : Blk w m3 4 #[.bool b]) (hW : W ≤ 16) (hH : H ≤ 16) (hx : x < W) (hy : y < H) (hB : B ≤ g) :
    Calls Tryz.prog 34 (#[.pointer (some ⟨p, 0, none⟩)] ++ #[.pointer (some ⟨m1, 0, none⟩), .pointer (some ⟨m2, 0, none⟩), .pointer (some ⟨m3, 0, none⟩)]) w fun e' w' => (∃ p' g' cap sp, e' = .returned (.pointer (some ⟨p', 0, none⟩)) ∧ ImgG w' p' g' cap sp W H (L.set (y * W + x) b)) ∧ Below B w w' := by
  have HA := Lib.hid (fun V (hb : Below w.heap.size w V) => has_anyG p g (W * H) [] W H L x y V (h.g.ext hb) (by omega) (by omega))
  have hin : hasB W H x y = true := hasB_iff.2 ⟨⟨by omega, by omega⟩, by omega, by omega⟩
  rw [hin] at HA
  have SE := Lib.hid (fun V (hb : Below w.heap.size w V) => set_anyG p g (W * H) [] W H L x y b V (h.g.ext hb) (by omega) (by omega) hx hy)
  have hi : y * W + x < W * H := by
    have : (y + 1) * W ≤ H * W := Nat.mul_le_mul_right _ hy
    rw [Nat.add_mul, Nat.mul_comm H] at this
    omega
  have FI := Lib.hid (fun V (hb : Below w.heap.size w V) => And.intro ((h.g.ext hb).put (y * W + x) hi b) ((hb.mono (Nat.le_trans hB (Nat.le_of_lt h.bits.lt))).setCell (p := ⟨g, y * W + x, none⟩) hB (.bool b)))
  have k1 := T1.cell 0
  have k2 := T2.cell 0
  have k3 := T3.cell 0
  simp at k1 k2 k3
  clear h T1 T2 T3 hin hi
  go_enter Tryz.func34, Tryz.ntmps34
  go_wp2_with fail
  refine (HA.out _ (Ext.refl _)).mono ?_
  rintro e' w2 ⟨rfl, rfl⟩
  go_wp2_with fail
  refine (SE.out _ (Ext.refl _)).mono ?_
  rintro e' w3 ⟨rfl, rfl⟩
  have HO := Lib.hid (FI.out _ (Ext.refl _))
  clear FI HA SE
  go_wp2_with fail
  go_ret
  exact ⟨⟨p, g, W * H, [], rfl, HO.out.1.drewN 1⟩, HO.out.2.drew⟩
def setR (rows : List ByteArray) (x y : Nat) (b : Bool) : List ByteArray := rowsTo ((picBits rows).set (y * picW rows + x) b) (picW rows) rows.length
set_option maxRecDepth 100000 in
set_option maxHeartbeats 1000000 in
theorem setPixel_any (A : Option Addr) (cc : Nat) (rows : List ByteArray) (x y : Nat) (b : Bool) (w : World) (h : Rd w A (strs rows)) (hp : picOk rows = true) (hx : x < picW rows) (hy : y < rows.length) :
    Calls Tryz.prog 15 #[.agg #[.slice A rows.length cc], .int .i64 x, .int .i64 y, .bool b] w (PicRes w (setR rows x y b) true) := by
  obtain ⟨s1, s2, s3, s4⟩ := picOk_sizes hp
  have E1 := Ext.more (Ext.refl w) (.cells #[.slice A rows.length cc] 26)
  have P1 := Blk.made w 26 #[.slice A rows.length cc]
  obtain ⟨w1, hw1⟩ : ∃ w1, w.alloc (.cells #[.slice A rows.length cc] 26) = w1 := ⟨_, rfl⟩
  rw [hw1] at E1 P1
  have z1 : w1.heap.size = w.heap.size + 1 := by rw [← hw1]; simp
  have E2 := Ext.more E1 (.cells #[.int .i64 x] 2)
  have P2 := P1.more (.cells #[.int .i64 x] 2)
  have X2 := Blk.made w1 2 #[.int .i64 x]
  obtain ⟨w2, hw2⟩ : ∃ w2, w1.alloc (.cells #[.int .i64 x] 2) = w2 := ⟨_, rfl⟩
  rw [hw2] at E2 P2 X2
  have z2 : w2.heap.size = w.heap.size + 1 + 1 := by rw [← hw2]; simp [z1]
  have E3 := Ext.more E2 (.cells #[.int .i64 y] 2)
  have P3 := P2.more (.cells #[.int .i64 y] 2)
  have X3 := X2.more (.cells #[.int .i64 y] 2)
  have Y3 := Blk.made w2 2 #[.int .i64 y]
  obtain ⟨w3, hw3⟩ : ∃ w3, w2.alloc (.cells #[.int .i64 y] 2) = w3 := ⟨_, rfl⟩
  rw [hw3] at E3 P3 X3 Y3
  have z3 : w3.heap.size = w.heap.size + 1 + 1 + 1 := by rw [← hw3]; simp [z2]
  have E4 := Ext.more E3 (.cells #[.bool b] 4)
  have P4 := P3.more (.cells #[.bool b] 4)
  have X4 := X3.more (.cells #[.bool b] 4)
  have Y4 := Y3.more (.cells #[.bool b] 4)
  have B4 := Blk.made w3 4 #[.bool b]
  obtain ⟨w4, hw4⟩ : ∃ w4, w3.alloc (.cells #[.bool b] 4) = w4 := ⟨_, rfl⟩
  rw [hw4] at E4 P4 X4 Y4 B4
  have z4 : w4.heap.size = w.heap.size + 1 + 1 + 1 + 1 := by rw [← hw4]; simp [z3]
  have B3 := Ext.more E4 (.cells #[.slice none 0 0] 26)
  have P5 := P4.more (.cells #[.slice none 0 0] 26)
  have X5 := X4.more (.cells #[.slice none 0 0] 26)
  have Y5 := Y4.more (.cells #[.slice none 0 0] 26)
  have B5 := B4.more (.cells #[.slice none 0 0] 26)
  have R3 := Blk.made w4 26 #[.slice none 0 0]
  obtain ⟨V, hV0⟩ : ∃ V, w4.alloc (.cells #[.slice none 0 0] 26) = V := ⟨_, rfl⟩
  rw [hV0] at B3 P5 X5 Y5 B5 R3
  have hV : ((((w.alloc (.cells #[.slice A rows.length cc] 26)).alloc (.cells #[.int .i64 x] 2)).alloc (.cells #[.int .i64 y] 2)).alloc (.cells #[.bool b] 4)).alloc (.cells #[.slice none 0 0] 26) = V := by rw [hw1, hw2, hw3, hw4, hV0]
  rw [z1] at X5
  rw [z2] at Y5
  rw [z3] at B5
  rw [z4] at R3
  have cP := P5.cell 0
  simp at cP
  have WI : Hid (Calls Tryz.prog 25 #[.agg #[.slice A rows.length cc], .func (.func 34) #[] #[.pointer (some ⟨w.heap.size + 1, 0, none⟩), .pointer (some ⟨w.heap.size + 1 + 1, 0, none⟩), .pointer (some ⟨w.heap.size + 1 + 1 + 1, 0, none⟩)]] V (PicRes V (setR rows x y b) true)) :=
    withImage_anyM A cc rows 34 _ (picW rows) rows.length _ V (h.ext B3) (by omega) (by omega) (by omega) enters_setPix1 hp
      (fun p g wr hwr hg hI => setPix1_any p g _ _ _ _ _ _ x y b (V.heap.size + 1 + 1) wr hI (X5.under hwr X5.lt) (Y5.under hwr Y5.lt) (B5.under hwr B5.lt) s4 s2 hx hy hg)
  have hmf : ∀ (fn : Fn) (first cap : Array Value) (w : World), (Instr.makeFunc fn first cap).run Tryz.prog w = .ok (.func fn first cap) w := fun _ _ _ _ => rfl
  have HV := Lib.hid hV
  have HB3 := Lib.hid B3
  have zV := B3.size
  have HR3 := Lib.hid R3
  have rlt := R3.lt
  clear hV h hp s1 s2 s3 s4 X5 Y5 B5 R3 B3 P5 hV0 hw4 hw3 hw2 hw1 z1 z2 z3 z4 E1 P1 E2 P2 X2 E3 P3 X3 Y3 E4 P4 X4 Y4 B4
  generalize setR rows x y b = R at *
  clear hx hy
  go_enter Tryz.func15, Tryz.ntmps15
  go_upto_region 1 with fail
  rw [HV.out]
  go_wp2_with fail
  refine WI.out.mono ?_
  rintro e w5 ⟨A', c', rfl, hown, hb3⟩
  have R4 := HR3.out.under hb3 rlt
  have c3 := R4.cell 0
  have f3 := R4.free 0
  have cs := (R4.store 0 (.slice A' R.length c')).cell 0
  simp at c3 cs
  have r4lt := R4.lt
  have PR : Hid (PicRes w R true (.returned (.tuple #[.agg #[.slice A' R.length c'], .bool true])) (w5.setCell ⟨w.heap.size + 1 + 1 + 1 + 1, 0, none⟩ (.slice A' R.length c'))) := by
    refine ⟨A', c', rfl, ?_, ?_⟩
    · exact own_base (ownsRow_setCell_below hown (a := ⟨w.heap.size + 1 + 1 + 1 + 1, 0, none⟩) (by show w.heap.size + 1 + 1 + 1 + 1 < V.heap.size; exact rlt) _) (by omega)
    · exact (Ext.then_ HB3.out hb3).setCell (p := ⟨w.heap.size + 1 + 1 + 1 + 1, 0, none⟩) (by show w.heap.size ≤ w.heap.size + 1 + 1 + 1 + 1; omega) _
  clear hown hb3 R4 HR3 HB3 HV
  go_wp2_with fail
  refine bodyPost_ret (v := .tuple #[.agg #[.slice A' R.length c'], .bool true]) (by simp [results, Tryz.results15, go_sem, cs]) rfl PR.out
end Go.Proofs.YtdhajndmebnknaaGreat
