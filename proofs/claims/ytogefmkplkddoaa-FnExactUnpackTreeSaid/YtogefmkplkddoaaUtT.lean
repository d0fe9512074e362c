/- Trees of squares: the reference's UnpackTree. -/
import Derived.Test.YtogefmkplkddoaaUtU
import Derived.Test.YtogefmkplkddoaaUtS
namespace Go.Proofs.Ytogefmkplkddoaa
open Go.RowKit

set_option maxRecDepth 100000 in
set_option maxHeartbeats 2000000 in
theorem utS_any (side : Int) (s : ByteArray) (w : World) (hs : s.size ≤ 1048576) : Calls Try.prog 14 #[.int .i64 side, .string s] w (UtRes side s w) := by
  have SD := Lib.hid (fun V => sideS_any side V)
  have T0 := Blk.made w 29 #[.int .i64 0, .string ⟨#[]⟩]
  have B0 : Below w.heap.size w (w.alloc (.cells #[.int .i64 0, .string ⟨#[]⟩] 29)) := Ext.more (Ext.refl _) _
  cases hsd : sdB side
  · have F : Hid (utO side s = none) := utO_none (fun h => by rw [hsd] at h; exact absurd h.1 (by decide))
    rw [hsd] at SD
    have T4 := T0
    have B4 := B0
    clear hsd
    go_enter Try.func14, Try.ntmps14
    go_wp2_with fail
    refine (SD.out _).mono ?_
    rintro e w1 ⟨rfl, rfl⟩
    have c0 := T4.cell 0
    have c1 := T4.cell 1
    have f0 := T4.free 0
    have f1 := T4.free 1
    have hl := T4.lt
    have c3 := (T4.store 0 (.int .i64 0)).cell 1
    have cs0 := ((T4.store 0 (.int .i64 0)).store 1 (.string ⟨#[]⟩)).cell 0
    have cs1 := ((T4.store 0 (.int .i64 0)).store 1 (.string ⟨#[]⟩)).cell 1
    simp at c0 c1 c3 cs0 cs1
    clear T0 T4
    go_wp2_with fail
    refine bodyPost_ret (v := .tuple #[.agg #[.int .i64 0, .string ⟨#[]⟩], .bool false]) (by simp [results, Try.results14, go_sem]) rfl ⟨by rw [F.out]; rfl, B4⟩
  rw [hsd] at SD
  by_cases hbig : 2000 < s.size
  · have F : Hid (utO side s = none) := utO_none (fun h => by omega)
    have q0 : (2000 : Int) < (s.size : Int) := by omega
    have T4 := T0
    have B4 := B0
    clear hsd hbig
    go_enter Try.func14, Try.ntmps14
    go_wp2_with fail
    refine (SD.out _).mono ?_
    rintro e w1 ⟨rfl, rfl⟩
    have c0 := T4.cell 0
    have c1 := T4.cell 1
    have f0 := T4.free 0
    have f1 := T4.free 1
    have hl := T4.lt
    have c3 := (T4.store 0 (.int .i64 0)).cell 1
    have cs0 := ((T4.store 0 (.int .i64 0)).store 1 (.string ⟨#[]⟩)).cell 0
    have cs1 := ((T4.store 0 (.int .i64 0)).store 1 (.string ⟨#[]⟩)).cell 1
    simp at c0 c1 c3 cs0 cs1
    clear T0 T4
    go_wp2_with fail
    refine bodyPost_ret (v := .tuple #[.agg #[.int .i64 0, .string ⟨#[]⟩], .bool false]) (by simp [results, Try.results14, go_sem]) rfl ⟨by rw [F.out]; rfl, B4⟩
  obtain ⟨hn4, hsS⟩ := sdB_iff hsd
  have HSD := Lib.hid hsd
  have OT := Lib.hid (fun V => otS_any (sdN side) (2 ^ sdN side) s 0 V (by omega) rfl hn4 (by omega) (by omega))
  rw [← hsS] at OT
  have q0 : ¬ (2000 : Int) < (s.size : Int) := by omega
  have HS0 : Hid (s.size ≤ 2000) := by rw [Hid]; omega
  unfold OtRes at OT
  obtain ⟨TX, hTX⟩ : ∃ TX : ByteArray, (⟨(ot s.data.toList (sdN side) 0).1.toArray⟩ : ByteArray) = TX := ⟨_, rfl⟩
  obtain ⟨z, hz⟩ : ∃ z, (ot s.data.toList (sdN side) 0).2 = z := ⟨_, rfl⟩
  rw [hTX, hz] at OT
  have hsz : TX.size ≤ 1048576 := by
    rw [← hTX]
    have h1 := ot_len s.data.toList (sdN side) 0
    have h2 : 4 ^ sdN side ≤ 4 ^ 4 := Nat.pow_le_pow_right (by decide) hn4
    simp only [ByteArray.size, List.size_toArray]
    omega
  have PKO : Hid (∀ T : QT, T.fits (sdN side) = true → T.pk (sdN side) = s.data.toList → TX = ⟨T.txt.toArray⟩ ∧ z = (s.size : Int)) := fun T h1 h2 => by
    have h3 := (ot_pk s.data.toList (sdN side) T 0 [] h1 (by rw [List.drop_zero, List.append_nil, h2])).1
    have h3 : ot s.data.toList (sdN side) 0 = _ := h3
    rw [← hTX, ← hz, h3]
    refine ⟨rfl, ?_⟩
    rw [h2]
    show ((0 + s.data.toList.length : Nat) : Int) = _
    rw [Nat.zero_add]; rfl
  have HsS := Lib.hid hsS
  have OP := Lib.hid (fun (p : Nat) V (hB : Blk V p 29 #[.int .i64 side, .string TX]) => open_any p side TX V hsz hB)
  clear hbig hs hTX hz hsd hsS
  by_cases hzs : z = (s.size : Int)
  case neg =>
    have F : Hid (utO side s = none) := utO_none (fun ⟨_, _, T, h1, _, h3⟩ => hzs (PKO.out T h1 h3).2)
    have q1 : (z != (s.size : Int)) = true := by rw [bne_iff_ne]; exact hzs
    clear hzs
    go_enter Try.func14, Try.ntmps14
    go_wp2_with fail
    refine (SD.out _).mono ?_
    rintro e w1 ⟨rfl, rfl⟩
    have T1 := T0
    have B1 := B0
    go_wp2_with fail
    refine (OT.out _).mono ?_
    rintro e w2 ⟨rfl, rfl⟩
    obtain ⟨w3, hw3⟩ : ∃ w3, (w.alloc (.cells #[.int .i64 0, .string ⟨#[]⟩] 29)).alloc (.cells #[.int .i64 side, .string TX] 29) = w3 := ⟨_, rfl⟩
    have K3 : Blk w3 (w.heap.size + 1) 29 #[.int .i64 side, .string TX] := by
      rw [← hw3]
      have := Blk.made (w.alloc (.cells #[.int .i64 0, .string ⟨#[]⟩] 29)) 29 #[.int .i64 side, .string TX]
      simpa using this
    have T3 : Blk w3 w.heap.size 29 #[.int .i64 0, .string ⟨#[]⟩] := by rw [← hw3]; exact T1.more _
    have B3 : Below w.heap.size w w3 := by rw [← hw3]; exact Ext.more B1 _
    have HW3 := Lib.hid hw3
    clear hw3 T0 T1 B0 B1 OT
    go_wp2_with fail
    rw [HW3.out]
    refine (OP.out _ _ K3).mono ?_
    rintro e w4 ⟨A, k, c, rfl, hb4, hm⟩
    have P5 := Blk.made w4 41 #[.slice A k c]
    have K5 := (K3.under hb4 K3.lt).more (.cells #[.slice A k c] 41)
    have T4 := (T3.under hb4 T3.lt).more (.cells #[.slice A k c] 41)
    have B4 : Below w.heap.size w (w4.alloc (.cells #[.slice A k c] 41)) := Ext.more (Ext.then_ B3 hb4) _
    have c0 := T4.cell 0
    have c1 := T4.cell 1
    have f0 := T4.free 0
    have f1 := T4.free 1
    have hl := T4.lt
    have c3 := (T4.store 0 (.int .i64 0)).cell 1
    have cs0 := ((T4.store 0 (.int .i64 0)).store 1 (.string ⟨#[]⟩)).cell 0
    have cs1 := ((T4.store 0 (.int .i64 0)).store 1 (.string ⟨#[]⟩)).cell 1
    simp at c0 c1 c3 cs0 cs1
    clear K3 T3 P5 K5 T4 hm hb4
    go_wp2_with fail
    refine bodyPost_ret (v := .tuple #[.agg #[.int .i64 0, .string ⟨#[]⟩], .bool false]) (by simp [results, Try.results14, go_sem, cs0, cs1]) rfl ⟨by rw [F.out]; rfl, (B4.setCell (p := ⟨w.heap.size, 0, none⟩) (Nat.le_refl _) _).setCell (p := ⟨w.heap.size, 1, none⟩) (Nat.le_refl _) _⟩
  have q1 : (z != (s.size : Int)) = false := by rw [hzs]; simp
  cases hT : trO side TX with
  | none =>
    have F : Hid (utO side s = none) := utO_none (fun ⟨_, _, T, h1, h2, h3⟩ => by
      have h4 := (PKO.out T h1 h3).1
      rw [trO_of HSD.out (T := T) (by rw [h4]) h1 h2] at hT
      cases hT)
    have hb := (pt_no hT).1
    clear hT
    go_enter Try.func14, Try.ntmps14
    go_wp2_with fail
    refine (SD.out _).mono ?_
    rintro e w1 ⟨rfl, rfl⟩
    have T1 := T0
    have B1 := B0
    go_wp2_with fail
    refine (OT.out _).mono ?_
    rintro e w2 ⟨rfl, rfl⟩
    obtain ⟨w3, hw3⟩ : ∃ w3, (w.alloc (.cells #[.int .i64 0, .string ⟨#[]⟩] 29)).alloc (.cells #[.int .i64 side, .string TX] 29) = w3 := ⟨_, rfl⟩
    have K3 : Blk w3 (w.heap.size + 1) 29 #[.int .i64 side, .string TX] := by
      rw [← hw3]
      have := Blk.made (w.alloc (.cells #[.int .i64 0, .string ⟨#[]⟩] 29)) 29 #[.int .i64 side, .string TX]
      simpa using this
    have T3 : Blk w3 w.heap.size 29 #[.int .i64 0, .string ⟨#[]⟩] := by rw [← hw3]; exact T1.more _
    have B3 : Below w.heap.size w w3 := by rw [← hw3]; exact Ext.more B1 _
    have HW3 := Lib.hid hw3
    clear hw3 T0 T1 B0 B1 OT
    go_wp2_with fail
    rw [HW3.out]
    refine (OP.out _ _ K3).mono ?_
    rintro e w4 ⟨A, k, c, rfl, hb4, hm⟩
    have P5 := Blk.made w4 41 #[.slice A k c]
    have K5 := (K3.under hb4 K3.lt).more (.cells #[.slice A k c] 41)
    have T4 := (T3.under hb4 T3.lt).more (.cells #[.slice A k c] 41)
    have B4 : Below w.heap.size w (w4.alloc (.cells #[.slice A k c] 41)) := Ext.more (Ext.then_ B3 hb4) _
    have c0 := T4.cell 0
    have c1 := T4.cell 1
    have f0 := T4.free 0
    have f1 := T4.free 1
    have hl := T4.lt
    have c3 := (T4.store 0 (.int .i64 0)).cell 1
    have cs0 := ((T4.store 0 (.int .i64 0)).store 1 (.string ⟨#[]⟩)).cell 0
    have cs1 := ((T4.store 0 (.int .i64 0)).store 1 (.string ⟨#[]⟩)).cell 1
    simp at c0 c1 c3 cs0 cs1
    clear K3 T3 P5 K5 T4 hm hb4
    rw [hb]
    go_wp2_with fail
    refine bodyPost_ret (v := .tuple #[.agg #[.int .i64 0, .string ⟨#[]⟩], .bool false]) (by simp [results, Try.results14, go_sem, cs0, cs1]) rfl ⟨by rw [F.out]; rfl, (B4.setCell (p := ⟨w.heap.size, 0, none⟩) (Nat.le_refl _) _).setCell (p := ⟨w.heap.size, 1, none⟩) (Nat.le_refl _) _⟩
  | some T =>
    obtain ⟨_, t2, t3, t4⟩ := trO_facts hT
    have AG : Hid (((⟨(T.pk (sdN side)).toArray⟩ : ByteArray).toList == s.toList) = utB (utO side s) ∧ (utB (utO side s) = true → utO side s = some T) ∧ (utB (utO side s) = false → utO side s = none)) := by
      by_cases he : T.pk (sdN side) = s.data.toList
      · have hs := utO_some HSD.out HS0.out t3 t4 he
        refine ⟨?_, fun _ => hs, fun h => by rw [hs] at h; cases h⟩
        rw [hs, show utB (some T) = true from rfl, beq_iff_eq, ByteArray.toList_eq, ByteArray.toList_eq]
        exact he
      · have hs : utO side s = none := utO_none (fun ⟨_, _, T', h1, h2, h3⟩ => by
          have h5 := (PKO.out T' h1 h3).1
          have h6 : T.txt = T'.txt := by rw [← t2, h5]
          exact he (by rw [txt_inj t3 h1 h6]; exact h3))
        refine ⟨?_, fun h => (by rw [hs] at h; cases h), fun _ => hs⟩
        rw [hs, show utB none = false from rfl, beq_eq_false_iff_ne, ByteArray.toList_eq, ByteArray.toList_eq]
        exact he
    obtain ⟨PB, hPB⟩ : ∃ PB : ByteArray, (⟨(T.pk (sdN side)).toArray⟩ : ByteArray) = PB := ⟨_, rfl⟩
    have HPB := Lib.hid hPB
    rw [hPB] at AG
    have TT := Lib.hid t2
    obtain ⟨rb, hrb⟩ : ∃ rb, utB (utO side s) = rb := ⟨_, rfl⟩
    rw [hrb] at AG
    have hcmp := AG.out.1
    have hAG := Lib.hid AG.out.2
    have hn4 := (sdB_iff HSD.out).1
    clear AG t2 t3 t4 hPB hrb
    cases rb
    · have F := Lib.hid (hAG.out.2 rfl)
      go_enter Try.func14, Try.ntmps14
      go_wp2_with fail
      refine (SD.out _).mono ?_
      rintro e w1 ⟨rfl, rfl⟩
      have T1 := T0
      have B1 := B0
      go_wp2_with fail
      refine (OT.out _).mono ?_
      rintro e w2 ⟨rfl, rfl⟩
      obtain ⟨w3, hw3⟩ : ∃ w3, (w.alloc (.cells #[.int .i64 0, .string ⟨#[]⟩] 29)).alloc (.cells #[.int .i64 side, .string TX] 29) = w3 := ⟨_, rfl⟩
      have K3 : Blk w3 (w.heap.size + 1) 29 #[.int .i64 side, .string TX] := by
        rw [← hw3]
        have := Blk.made (w.alloc (.cells #[.int .i64 0, .string ⟨#[]⟩] 29)) 29 #[.int .i64 side, .string TX]
        simpa using this
      have T3 : Blk w3 w.heap.size 29 #[.int .i64 0, .string ⟨#[]⟩] := by rw [← hw3]; exact T1.more _
      have B3 : Below w.heap.size w w3 := by rw [← hw3]; exact Ext.more B1 _
      have HW3 := Lib.hid hw3
      clear hw3 T0 T1 B0 B1 OT
      go_wp2_with fail
      rw [HW3.out]
      refine (OP.out _ _ K3).mono ?_
      rintro e w4 ⟨A, k, c, rfl, hb4, hm⟩
      have P5 := Blk.made w4 41 #[.slice A k c]
      have K5 := (K3.under hb4 K3.lt).more (.cells #[.slice A k c] 41)
      have T4 := (T3.under hb4 T3.lt).more (.cells #[.slice A k c] 41)
      have B4 : Below w.heap.size w (w4.alloc (.cells #[.slice A k c] 41)) := Ext.more (Ext.then_ B3 hb4) _
      obtain ⟨S, L, hsS, hS, hk, hL, hR, hp⟩ := hm T hT
      obtain rfl : S = k := hk.symm
      obtain ⟨f1, f2, f3, f4⟩ := trO_facts hT
      have hb := (pt_yes hT).1
      have h16 : S ≤ 16 := by rw [hS]; exact Nat.le_trans (Nat.pow_le_pow_right (by decide) hn4) (by decide)
      have h0 : 0 < S := by rw [hS]; exact Nat.pow_pos (by decide)
      have PA : PicAt (w4.alloc (.cells #[.slice A S c] 41)) w4.heap.size A c (rowsTo L S S) := ⟨P5.lt, by rw [rowsTo_length]; simp, by
        exact hR.ext (Ext.more (Ext.refl w4) _)⟩
      have TXX := pkS_any w4.heap.size (bit (picBits (rowsTo L S S)) (picW (rowsTo L S S)) (rowsTo L S S).length) (w4.alloc (.cells #[.slice A S c] 41)) (fun i j => black_any w4.heap.size A c (rowsTo L S S) i j _ PA (told_ok h0 h16 h0 h16)) (sdN side) hn4 S 0 0 hS (by omega) (by omega)
      rw [sq_qtf h0 hS hL hp, qtf_px _ _ f3 f4, ← hsS, HPB.out] at TXX
      simp at TXX
      have HTX := Lib.hid TXX
      clear TXX PA hp hR hL hS hsS f1 f2 f3 f4 h16 h0 hT hn4
      rw [hb]
      go_wp2_with fail
      refine HTX.out.mono ?_
      rintro e w' ⟨rfl, rfl⟩
      have c0 := T4.cell 0
      have c1 := T4.cell 1
      have f0 := T4.free 0
      have f1 := T4.free 1
      have hl := T4.lt
      have c3 := (T4.store 0 (.int .i64 0)).cell 1
      have cs0 := ((T4.store 0 (.int .i64 0)).store 1 (.string ⟨#[]⟩)).cell 0
      have cs1 := ((T4.store 0 (.int .i64 0)).store 1 (.string ⟨#[]⟩)).cell 1
      simp at c0 c1 c3 cs0 cs1
      clear K3 T3 P5 K5 T4 hm hb4
      go_wp2_with fail
      refine bodyPost_ret (v := .tuple #[.agg #[.int .i64 0, .string ⟨#[]⟩], .bool false]) (by simp [results, Try.results14, go_sem, cs0, cs1]) rfl ⟨by rw [F.out]; rfl, (B4.setCell (p := ⟨w.heap.size, 0, none⟩) (Nat.le_refl _) _).setCell (p := ⟨w.heap.size, 1, none⟩) (Nat.le_refl _) _⟩
    · have F := Lib.hid (hAG.out.1 rfl)
      go_enter Try.func14, Try.ntmps14
      go_wp2_with fail
      refine (SD.out _).mono ?_
      rintro e w1 ⟨rfl, rfl⟩
      have T1 := T0
      have B1 := B0
      go_wp2_with fail
      refine (OT.out _).mono ?_
      rintro e w2 ⟨rfl, rfl⟩
      obtain ⟨w3, hw3⟩ : ∃ w3, (w.alloc (.cells #[.int .i64 0, .string ⟨#[]⟩] 29)).alloc (.cells #[.int .i64 side, .string TX] 29) = w3 := ⟨_, rfl⟩
      have K3 : Blk w3 (w.heap.size + 1) 29 #[.int .i64 side, .string TX] := by
        rw [← hw3]
        have := Blk.made (w.alloc (.cells #[.int .i64 0, .string ⟨#[]⟩] 29)) 29 #[.int .i64 side, .string TX]
        simpa using this
      have T3 : Blk w3 w.heap.size 29 #[.int .i64 0, .string ⟨#[]⟩] := by rw [← hw3]; exact T1.more _
      have B3 : Below w.heap.size w w3 := by rw [← hw3]; exact Ext.more B1 _
      have HW3 := Lib.hid hw3
      clear hw3 T0 T1 B0 B1 OT
      go_wp2_with fail
      rw [HW3.out]
      refine (OP.out _ _ K3).mono ?_
      rintro e w4 ⟨A, k, c, rfl, hb4, hm⟩
      have P5 := Blk.made w4 41 #[.slice A k c]
      have K5 := (K3.under hb4 K3.lt).more (.cells #[.slice A k c] 41)
      have T4 := (T3.under hb4 T3.lt).more (.cells #[.slice A k c] 41)
      have B4 : Below w.heap.size w (w4.alloc (.cells #[.slice A k c] 41)) := Ext.more (Ext.then_ B3 hb4) _
      have k0 := K5.cell 0
      have k1 := K5.cell 1
      simp at k0 k1
      obtain ⟨S, L, hsS, hS, hk, hL, hR, hp⟩ := hm T hT
      obtain rfl : S = k := hk.symm
      obtain ⟨f1, f2, f3, f4⟩ := trO_facts hT
      have hb := (pt_yes hT).1
      have h16 : S ≤ 16 := by rw [hS]; exact Nat.le_trans (Nat.pow_le_pow_right (by decide) hn4) (by decide)
      have h0 : 0 < S := by rw [hS]; exact Nat.pow_pos (by decide)
      have PA : PicAt (w4.alloc (.cells #[.slice A S c] 41)) w4.heap.size A c (rowsTo L S S) := ⟨P5.lt, by rw [rowsTo_length]; simp, by
        exact hR.ext (Ext.more (Ext.refl w4) _)⟩
      have TXX := pkS_any w4.heap.size (bit (picBits (rowsTo L S S)) (picW (rowsTo L S S)) (rowsTo L S S).length) (w4.alloc (.cells #[.slice A S c] 41)) (fun i j => black_any w4.heap.size A c (rowsTo L S S) i j _ PA (told_ok h0 h16 h0 h16)) (sdN side) hn4 S 0 0 hS (by omega) (by omega)
      rw [sq_qtf h0 hS hL hp, qtf_px _ _ f3 f4, ← hsS, HPB.out] at TXX
      simp at TXX
      have HTX := Lib.hid TXX
      clear TXX PA hp hR hL hS hsS f1 f2 f3 f4 h16 h0 hT hn4
      rw [hb]
      go_wp2_with fail
      refine HTX.out.mono ?_
      rintro e w' ⟨rfl, rfl⟩
      have c0 := T4.cell 0
      have c1 := T4.cell 1
      have f0 := T4.free 0
      have f1 := T4.free 1
      have hl := T4.lt
      have c3 := (T4.store 0 (.int .i64 side)).cell 1
      have cs0 := ((T4.store 0 (.int .i64 side)).store 1 (.string TX)).cell 0
      have cs1 := ((T4.store 0 (.int .i64 side)).store 1 (.string TX)).cell 1
      simp at c0 c1 c3 cs0 cs1
      clear K3 T3 P5 K5 T4 hm hb4
      go_wp2_with fail
      refine bodyPost_ret (v := .tuple #[.agg #[.int .i64 side, .string TX], .bool true]) (by simp [results, Try.results14, go_sem, cs0, cs1]) rfl ⟨?_, (B4.setCell (p := ⟨w.heap.size, 0, none⟩) (Nat.le_refl _) _).setCell (p := ⟨w.heap.size, 1, none⟩) (Nat.le_refl _) _⟩
      have e2 : TX = ⟨T.txt.toArray⟩ := by
        apply ByteArray.ext
        rw [← TT.out]
      rw [F.out, e2]; rfl
end Go.Proofs.Ytogefmkplkddoaa
