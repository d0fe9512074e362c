/- The program's way between two pixels. -/
import Derived.Test.YtajepoopicoodaaWayM
import Derived.Deep.LoopGhost
import Derived.Deep.RegionHeld3
import Derived.Deep.RegionLaw
namespace Go.Proofs.Ytajepoopicoodaa
open Go.RowKit

set_option maxRecDepth 100000 in
set_option maxHeartbeats 2000000 in
theorem wayBetween_any (A : Option Addr) (c : Nat) (rows : List (List Int)) (ax ay bx b_y : Int) (w : World) (h : MatRd w A rows) (hn : rows.length ≤ 1000000000) (hr : ∀ i (h : i < rows.length), rows[i].length ≤ 1000000000) :
    Calls Try.prog 35 #[.agg #[.slice A rows.length c], .agg #[.int .i64 ax, .int .i64 ay], .agg #[.int .i64 bx, .int .i64 b_y]] w fun e w' => e = .returned (.tuple #[.string (wayV rows ax ay bx b_y), .bool (passOk rows ax ay bx b_y)]) ∧ Below w.heap.size w w' := by
  obtain ⟨wB, hwB⟩ : ∃ wB, ((w.alloc (.cells #[.slice A rows.length c] 31)).alloc (.cells #[.int .i64 ax, .int .i64 ay] 28)).alloc (.cells #[.int .i64 bx, .int .i64 b_y] 28) = wB := ⟨_, rfl⟩
  have B1 : Below w.heap.size w wB := by rw [← hwB]; exact Ext.more (Ext.more (Ext.more (Ext.refl _) _) _) _
  have G1 : GreyAt wB w.heap.size A c rows := by rw [← hwB]; exact (grey_box h).ext (Ext.more (Ext.more (Ext.refl _) _) _)
  have S0 : Blk wB (w.heap.size + 1) 28 #[.int .i64 ax, .int .i64 ay] := by
    have := (Blk.made (w.alloc (.cells #[.slice A rows.length c] 31)) 28 #[.int .i64 ax, .int .i64 ay]).more (.cells #[.int .i64 bx, .int .i64 b_y] 28)
    rw [hwB] at this; simpa using this
  have S1 : Blk wB (w.heap.size + 1 + 1) 28 #[.int .i64 bx, .int .i64 b_y] := by
    have := Blk.made ((w.alloc (.cells #[.slice A rows.length c] 31)).alloc (.cells #[.int .i64 ax, .int .i64 ay] 28)) 28 #[.int .i64 bx, .int .i64 b_y]
    rw [hwB] at this; simpa using this
  have VG := Lib.hid (fun V (hV : Below w.heap.size w V) => validGrey_any A c rows V (h.ext hV) hn hr)
  have GX := Lib.hid (fun V (hb : Below wB.heap.size wB V) => G1.ext hb)
  have SX := Lib.hid (fun V (hb : Below wB.heap.size wB V) => And.intro (S0.under hb S0.lt) (S1.under hb S1.lt))
  have c0 := G1.cell
  obtain ⟨W, hW⟩ : ∃ W, tabW rows = W := ⟨_, rfl⟩
  obtain ⟨H, hH⟩ : ∃ H, rows.length = H := ⟨_, rfl⟩
  rw [hH] at c0 VG hwB ⊢
  cases hg : greyOk rows
  · have F : Hid (passOk rows ax ay bx b_y = false) := by simp [Hid, passOk, inR, hg]
    have F2 : Hid (wayV rows ax ay bx b_y = ByteArray.empty) := by rw [Hid, wayV, F.out]; rfl
    rw [hg] at VG
    rw [F.out, F2.out]
    clear hg hn hr h hW hH G1
    go_enter Try.func35, Try.ntmps35
    go_wp2_with fail
    try simp only [hwB]
    refine (VG.out _ B1).mono ?_
    rintro e w2 ⟨rfl, hb⟩
    go_wp2_with fail
    go_ret2
    exact ⟨rfl, Ext.then_ B1 hb⟩
  rw [hg] at VG
  obtain ⟨s1, s2, s3, s4⟩ := tab_sizes hg
  have HS := Lib.hid (fun V (hV : GreyAt V w.heap.size A c rows) (x y : Int) => g_has hV hW hH (by omega) (by omega) (by omega) x y)
  cases ha : inG W H (ax, ay)
  · have F : Hid (passOk rows ax ay bx b_y = false) := by simp [Hid, passOk, inR, hW, hH, ha]
    have F2 : Hid (wayV rows ax ay bx b_y = ByteArray.empty) := by rw [Hid, wayV, F.out]; rfl
    have HA := Lib.hid (fun V (hV : GreyAt V w.heap.size A c rows) => HS.out V hV ax ay)
    rw [ha] at HA
    rw [F.out, F2.out]
    clear hg hn hr h hW hH G1 s1 s2 s3 s4 ha HS
    go_enter Try.func35, Try.ntmps35
    go_wp2_with fail
    try simp only [hwB]
    refine (VG.out _ B1).mono ?_
    rintro e w2 ⟨rfl, hb⟩
    have k0 := (SX.out _ hb).1.cell 0
    have k1 := (SX.out _ hb).1.cell 1
    simp at k0 k1
    go_wp2_with fail
    refine (HA.out _ (GX.out _ hb)).mono ?_
    rintro e w3 ⟨rfl, hb3⟩
    go_wp2_with fail
    go_ret2
    exact ⟨rfl, Ext.then_ (Ext.then_ B1 hb) hb3⟩
  cases hbq : inG W H (bx, b_y)
  · have F : Hid (passOk rows ax ay bx b_y = false) := by simp [Hid, passOk, inR, hW, hH, hbq]
    have F2 : Hid (wayV rows ax ay bx b_y = ByteArray.empty) := by rw [Hid, wayV, F.out]; rfl
    have HA := Lib.hid (fun V (hV : GreyAt V w.heap.size A c rows) => HS.out V hV ax ay)
    have HQ := Lib.hid (fun V (hV : GreyAt V w.heap.size A c rows) => HS.out V hV bx b_y)
    rw [ha] at HA
    rw [hbq] at HQ
    rw [F.out, F2.out]
    clear hg hn hr h hW hH G1 s1 s2 s3 s4 ha hbq HS
    go_enter Try.func35, Try.ntmps35
    go_wp2_with fail
    try simp only [hwB]
    refine (VG.out _ B1).mono ?_
    rintro e w2 ⟨rfl, hb⟩
    have k0 := (SX.out _ hb).1.cell 0
    have k1 := (SX.out _ hb).1.cell 1
    simp at k0 k1
    go_wp2_with fail
    refine (HA.out _ (GX.out _ hb)).mono ?_
    rintro e w3 ⟨rfl, hb3⟩
    have hb13 := Ext.then_ hb hb3
    have k2 := (SX.out _ hb13).2.cell 0
    have k3 := (SX.out _ hb13).2.cell 1
    simp at k2 k3
    clear k0 k1
    go_wp2_with fail
    refine (HQ.out _ (GX.out _ hb13)).mono ?_
    rintro e w4 ⟨rfl, hb4⟩
    go_wp2_with fail
    go_ret2
    exact ⟨rfl, Ext.then_ (Ext.then_ B1 hb13) hb4⟩
  obtain ⟨a1, a2, rfl, rfl, ha1, ha2, pa⟩ := inG_nat ha
  obtain ⟨b1, b2, rfl, rfl, hb1, hb2, pb⟩ := inG_nat hbq
  have F : Hid (passOk rows a1 a2 b1 b2 = true) := by simp [Hid, passOk, inR, hW, hH, hbq, ha, hg]
  have F2 : Hid (∀ O, IsPass W (W * H) (gF rows W) (fun i => i = a2 * W + a1) O → passV rows a1 a2 b1 b2 = O (b2 * W + b1)) := by
    intro O hO
    rw [passV, F.out, if_pos rfl, passAt, pR, pR, hW, hH, pa, pb]
    exact passL_get hO (pl_lt hb1 hb2)
  have F3 : Hid (wayV rows a1 a2 b1 b2 = ByteArray.mk ((dirs (farF W H (gF rows W) (passV rows a1 a2 b1 b2) (b1, b2)) (((farF W H (gF rows W) (passV rows a1 a2 b1 b2) (b1, b2)) (a1, a2)).getD 0) (a1, a2)).map letB).toArray) := by
    rw [Hid, wayV, F.out, if_pos rfl, hW, hH]
  have HA := Lib.hid (fun V (hV : GreyAt V w.heap.size A c rows) => HS.out V hV a1 a2)
  have HQ := Lib.hid (fun V (hV : GreyAt V w.heap.size A c rows) => HS.out V hV b1 b2)
  have HE := Lib.hid (fun V (hV : GreyAt V w.heap.size A c rows) => heights_any w.heap.size A c rows W H a1 a2 V hV hg hW hH ha1 ha2)
  have hrw := tab_row hg
  have GA := Lib.hid (fun V (hV : GreyAt V w.heap.size A c rows) (x y : Nat) (hx : x < W) (hy : y < H) => g_at hV (fun y hy => by rw [hrw y hy, hW]) hx (by omega) (y := y))
  rw [ha] at HA
  rw [hbq] at HQ
  rw [F.out]
  have IB := Lib.hid hbq
  have IA := Lib.hid ha
  generalize passV rows a1 a2 b1 b2 = pv at *
  have hWl : W ≤ 16 := by omega
  have hHl : H ≤ 16 := by omega
  have hnl : W * H ≤ 256 := Nat.le_trans (Nat.mul_le_mul hWl hHl) (by decide)
  have GB : Hid (∀ i, i < W * H → 0 ≤ gF rows W i ∧ gF rows W i ≤ 99) := by rw [← hH]; exact gF_bd hg hW
  generalize gF rows W = G at *
  clear hg hn hr h hW hH G1 s1 s2 s3 s4 hrw F
  generalize wayV rows a1 a2 b1 b2 = wv at *
  have VG1 := VG
  clear VG
  have SB : Hid (spOk ((b1 : Int), (b2 : Int))) := ⟨by simp only; omega, by simp only; omega⟩
  have hmm := @run_makeMap Try.prog
  go_enter Try.func35, Try.ntmps35
  go_wp2_with fail
  try simp only [hwB]
  refine (VG1.out _ B1).mono ?_
  rintro e w2 ⟨rfl, hb⟩
  have k0 := (SX.out _ hb).1.cell 0
  have k1 := (SX.out _ hb).1.cell 1
  simp at k0 k1
  go_wp2_with fail
  refine (HA.out _ (GX.out _ hb)).mono ?_
  rintro e w3 ⟨rfl, hb3⟩
  have hb13 := Ext.then_ hb hb3
  have k2 := (SX.out _ hb13).2.cell 0
  have k3 := (SX.out _ hb13).2.cell 1
  simp at k2 k3
  clear k0 k1
  go_wp2_with fail
  refine (HQ.out _ (GX.out _ hb13)).mono ?_
  rintro e w4 ⟨rfl, hb4⟩
  have hb14 := Ext.then_ hb13 hb4
  have k4 := (SX.out _ hb14).1.cell 0
  have k5 := (SX.out _ hb14).1.cell 1
  simp at k4 k5
  clear k2 k3
  go_wp2_with fail
  refine (HE.out _ (GX.out _ hb14)).mono ?_
  rintro e w5 ⟨A5, c5, vs, O, rfl, hm, hP, hb5⟩
  have hb15 := Ext.then_ hb14 hb5
  have G5 := gO_grey hm
  have hb6 := Ext.more hb15 (.cells #[.slice A5 H c5] 31)
  have k6 := (SX.out _ hb6).2.cell 0
  have k7 := (SX.out _ hb6).2.cell 1
  simp at k6 k7
  have PV := Lib.hid (F2.out O hP.out)
  have PW := pass_way GB.out ha1 ha2 hb1 hb2 hP.out
  rw [← PV.out] at PW
  obtain ⟨pw1, pw2, pw3⟩ := PW
  have PW := Lib.hid pw1
  have hPb := Lib.hid pw1.le
  clear k4 k5 hm hb5 pw1
  go_wp2_with fail
  generalize w5.alloc (.cells #[.slice A5 H c5] 31) = w6 at *
  refine (gO_at G5 hb1 hb2).mono ?_
  rintro e w7 ⟨rfl, hb7⟩
  have hb17 := Ext.then_ hb6 hb7
  have k8 := (SX.out _ hb17).2.cell 0
  have k9 := (SX.out _ hb17).2.cell 1
  simp at k8 k9
  clear k6 k7 G5 hb7
  rw [← PV.out]
  have zs7 : w.heap.size + 2 < w7.heap.size := by have := (SX.out _ hb17).2.lt; omega
  have kk8 : (w7.alloc (.map #[] 0)).cell? ⟨w.heap.size + 1 + 1, 0, none⟩ = some (.int .i64 b1) := ((Ext.more (Ext.refl w7) (.map #[] 0)).cell (p := ⟨w.heap.size + 1 + 1, 0, none⟩) (by show w.heap.size + 1 + 1 < w7.heap.size; omega)).trans k8
  have kk9 : (w7.alloc (.map #[] 0)).cell? ⟨w.heap.size + 1 + 1, 1, none⟩ = some (.int .i64 b2) := ((Ext.more (Ext.refl w7) (.map #[] 0)).cell (p := ⟨w.heap.size + 1 + 1, 1, none⟩) (by show w.heap.size + 1 + 1 < w7.heap.size; omega)).trans k9
  have zs1 : w.heap.size + 1 + 1 < w7.heap.size := by omega
  go_wp2_with (refine wpList_insF (κ := Int × Int) spotK _ (by rfl) _ _ _ _ (by rfl) Try.underlying90 (by rfl) (MapF.made w7) ((b1 : Int), (b2 : Int)) SB.out (by rfl) ?_; intro w8 hm8 hg8 hz8; have B78 : Below w7.heap.size w7 w8 := (Ext.more (Ext.refl w7) (.map #[] 0)).grown hg8 (by simp) (fun z hz => by cases hz; exact Nat.le_refl _); have k10 := (B78.cell (p := ⟨w.heap.size + 1 + 1, 0, none⟩) zs1).trans k8; have k11 := (B78.cell (p := ⟨w.heap.size + 1 + 1, 1, none⟩) zs1).trans k9; have hm8 : MapF spV spOk w8 w7.heap.size (putF (fun _ => none) ((b1 : Int), (b2 : Int)) (.int .i64 0)) := hm8; clear hmm kk8 kk9 k8 k9)
  have I0 := WyI.start w7 b1 b2 hm8 (by simpa using hz8) B78
  have z8 : w8.heap.size = w7.heap.size + 1 := by simpa using hz8
  clear hm8 hg8 hz8
  have hbok : okW W H G pv ((b1 : Int), (b2 : Int)) = true := by rw [okW, IB.out, pb]; simpa using hPb.out
  have BF0 : FInv W H G pv ((b1 : Int), (b2 : Int)) (farS W H G pv ((b1 : Int), (b2 : Int)) 0) 0 := farS_zero hbok
  have S0 : Hid (start1 ((b1 : Int), (b2 : Int)) = farS W H G pv ((b1 : Int), (b2 : Int)) 0) := rfl
  rw [S0.out] at I0
  have FX : Hid (∀ i, FInv W H G pv ((b1 : Int), (b2 : Int)) (farS W H G pv ((b1 : Int), (b2 : Int)) i) i → i < (farS W H G pv ((b1 : Int), (b2 : Int)) i).Q.length → FarR W H G pv ((b1 : Int), (b2 : Int)) i) := fun i h hi => farR_of h hi
  have FL : Hid (∀ i, FInv W H G pv ((b1 : Int), (b2 : Int)) (farS W H G pv ((b1 : Int), (b2 : Int)) i) i → (farS W H G pv ((b1 : Int), (b2 : Int)) i).Q.length ≤ W * H ∧ i ≤ (farS W H G pv ((b1 : Int), (b2 : Int)) i).Q.length) := fun i h => ⟨farS_len h, h.le⟩
  have BG := Lib.hid hbok
  have HAR := Lib.hid (fun (x y : Int) V (hx : -1000 ≤ x ∧ x ≤ 1000) (hy : -1000 ≤ y ∧ y ≤ 1000) => around_any x y V hx hy)
  have GX2 := Lib.hid (fun V (hV : Below w7.heap.size w7 V) => GX.out V (hb17.trans (hV.mono (by have := hb17.size; omega))))
  have HS2 := Lib.hid (fun V (hV : Below w7.heap.size w7 V) (x y : Int) => HS.out V (GX2.out V hV) x y)
  have GA2 := Lib.hid (fun V (hV : Below w7.heap.size w7 V) (x y : Nat) hx hy => GA.out V (GX2.out V hV) x y hx hy)
  have I0z : Hid (∀ i g o cap wr, WyI w7 (farS W H G pv ((b1 : Int), (b2 : Int)) i) i g o cap wr → w7.heap.size < wr.heap.size) := fun i g o cap wr I => I.map.lt
  generalize w8.alloc (.cells #[.int .i64 b1, .int .i64 b2] 28) = w9 at *
  clear k10 k11 B78 z8 hbok HS GA HE HA HQ VG1 F2 hP
  go_loopg [11] (W * H) (fun n v wr => ∃ i g o cap : Nat, Hid (n + i = W * H) ∧ Hid (FInv W H G pv ((b1 : Int), (b2 : Int)) (farS W H G pv ((b1 : Int), (b2 : Int)) i) i) ∧ v = .slice (some ⟨g, o, none⟩) ((farS W H G pv ((b1 : Int), (b2 : Int)) i).Q.length - i) cap ∧ WyI w7 (farS W H G pv ((b1 : Int), (b2 : Int)) i) i g o cap wr)
  case atStart => exact ⟨0, _, _, _, Nat.add_zero _, BF0, rfl, I0⟩
  case round =>
    obtain ⟨i, g, o, cap, hni, hF, rfl, I⟩ := hrel
    obtain ⟨gn, hgn⟩ : ∃ gn, gn = gk := ⟨_, rfl⟩
    rw [← hgn] at hni
    clear BF0 S0 I0
    obtain ⟨fl1, fl2⟩ := FL.out i hF.out
    by_cases hlt : i < (farS W H G pv ((b1 : Int), (b2 : Int)) i).Q.length
    · obtain ⟨px, py, d, T, hp1, hp2, hp3, hp4, hT0, hTj, hTI, hT4, hN⟩ := FX.out i hF.out hlt
      have hT0' := hT0
      rw [← hT0] at I
      obtain ⟨e1, e2, e3, e4⟩ := hTI 0 (by omega)
      obtain ⟨q0, q1⟩ := I.head e3
      have HI := Lib.hid I
      have lg := I.que.lt
      clear e4
      rw [← hT0] at hlt fl1 fl2
      obtain ⟨m, hm⟩ : ∃ m, (T 0).Q.length - i = m := ⟨_, rfl⟩
      have HM := Lib.hid hm
      have m0 : (0 : Int) < (m : Int) := by omega
      rw [← hT0, hm]
      have HT4 := Lib.hid hT4
      have HN := Lib.hid hN
      clear hm hT0 I hT4 hN
      have j0 : IntKind.i64.wrap 0 = 0 := by decide
      have SS := Lib.hid (fun V (hb : Below wr.heap.size wr V) => (show Below wr.heap.size wr V ∧ V.cell? ⟨g, o, none⟩ = some (.int .i64 px) ∧ V.cell? ⟨g, o + 1, none⟩ = some (.int .i64 py) from
        ⟨hb, (hb.cell (p := ⟨g, o, none⟩) lg).trans q0, (hb.cell (p := ⟨g, o + 1, none⟩) lg).trans q1⟩))
      have AR := Lib.hid (fun V => HAR.out px py V (by omega) (by omega))
      go_wp2_with fail
      go_region_held3 (fun V => Below wr.heap.size wr V ∧ V.cell? ⟨g, o, none⟩ = some (.int .i64 px) ∧ V.cell? ⟨g, o + 1, none⟩ = some (.int .i64 py))
        (first | exact SS.out _ (Ext.draw (Ext.refl _)) | exact SS.out _ hbv | go_keep)
        (first
          | (go_at_call 75; refine (AR.out _).mono ?_; rintro e wv ⟨ga, ca, rfl, hrow, hb'⟩; have hbv : Below wr.heap.size wr wv := Ext.undraw hb'))
      have hgaw := (hrow.lt ga rfl).1
      have zwr : w7.heap.size < wr.heap.size := HI.out.map.lt
      have S0 : SpAt wv ga (arL px py) := own_spots hrow rfl
      have J0 := HI.out.step hbv
      have hga : wr.heap.size ≤ ga := by simpa using hgaw
      clear SS AR hb' hrow hgaw q0 q1
      go_wp2_with fail
      go_loopg [11, 59] 4 (fun n v jv wr => ∃ j g o cap : Nat, Hid (n + j = 4) ∧ jv = .int .i64 j ∧ v = .slice (some ⟨g, o, none⟩) ((T j).Q.length - i) cap ∧ WyI w7 (T j) i g o cap wr ∧ SpAt wr ga (arL px py) ∧ Hid (g < ga ∨ ga < g))
      case atStart => exact ⟨0, g, o, cap, rfl, rfl, by rw [← HM.out], J0, S0, .inl (by omega)⟩
      case round =>
        obtain ⟨j, g, o, cap, hnj, rfl, rfl, I, hS, hgg⟩ := hrel
        by_cases hjl : j < 4
        · have TS := Lib.hid (hTj j hjl)
          obtain ⟨t1, t2, t3, t4⟩ := hTI j (by omega)
          obtain ⟨c1, c2⟩ := hS.2 j hjl
          have lga := hS.1
          have qe : (arL (px : Int) (py : Int)).getD j (0, 0) = (arL (px : Int) (py : Int))[j]'hjl := by rw [List.getD_eq_getElem?_getD, List.getElem?_eq_getElem hjl]; rfl
          have qb : (-1 ≤ ((arL (px : Int) (py : Int))[j]'hjl).1 ∧ ((arL (px : Int) (py : Int))[j]'hjl).1 ≤ 16) ∧ -1 ≤ ((arL (px : Int) (py : Int))[j]'hjl).2 ∧ ((arL (px : Int) (py : Int))[j]'hjl).2 ≤ 16 := by
            have e : j = 0 ∨ j = 1 ∨ j = 2 ∨ j = 3 := by omega
            rcases e with e | e | e | e <;> subst e <;> simp [arL] <;> omega
          rw [qe] at TS
          have HQE := Lib.hid qe
          clear qe
          generalize (arL (px : Int) (py : Int))[j]'hjl = q at *
          obtain ⟨qx, qy⟩ := q
          simp only at c1 c2 qb
          obtain ⟨⟨b1', b2'⟩, b3', b4'⟩ := qb
          have QK : Hid (spOk (qx, qy)) := ⟨by simp only; omega, by simp only; omega⟩
          have i0 : (0 : Int) ≤ (j : Int) := by omega
          have i1 : (j : Int) < 4 := by omega
          have LZ := I.map.lt
          have EX := Ext.more (Ext.refl wr) (.cells #[.int .i64 qx, .int .i64 qy] 28)
          have IX := Lib.hid (I.step EX)
          have SX2 := Lib.hid (hS.ext EX)
          have HI := Lib.hid I
          have k13 : (wr.alloc (.cells #[.int .i64 qx, .int .i64 qy] 28)).cell? ⟨wr.heap.size, 0, none⟩ = some (.int .i64 qx) := cell_new wr _ _ 0
          have l13 : (wr.alloc (.cells #[.int .i64 qx, .int .i64 qy] 28)).cell? ⟨wr.heap.size, 1, none⟩ = some (.int .i64 qy) := cell_new wr _ _ 1
          cases hf : (T j).f (qx, qy)
          case some e0 =>
            have FS : Hid (T (j + 1) = T j) := by rw [Hid, TS.out, BS.see, if_neg]; simp [hf]
            have hfv : fv (T j).f (qx, qy) = some (.int .i64 (e0 : Int)) := by simp [fv, hf]
            clear hf I hS
            go_wp2_with (at_lookup; refine wpList_lookF spotK _ (by rfl) _ _ _ true (by rfl) Try.underlying90 (zeroInt' _) (by rfl) IX.out.map (qx, qy) QK.out (by rfl) ?_)
            go_roundg (gk - 1)
            case measure => have := hnj.out; omega
            case rel => exact ⟨j + 1, g, o, cap, by have := hnj.out; show gk - 1 + (j + 1) = 4; omega, by go_num, by rw [FS.out], by rw [FS.out]; exact IX.out, SX2.out, hgg⟩
          have hfv : fv (T j).f (qx, qy) = none := by simp [fv, hf]
          have H2 := Lib.hid (HS2.out _ IX.out.ext qx qy)
          cases hin : inG W H (qx, qy)
          · rw [hin] at H2
            have FS : Hid (T (j + 1) = T j) := by rw [Hid, TS.out, BS.see, if_neg]; simp [okW, hin]
            clear hf I hS hin
            go_wp2_with (first | (at_lookup; refine wpList_lookF spotK _ (by rfl) _ _ _ true (by rfl) Try.underlying90 (zeroInt' _) (by rfl) IX.out.map (qx, qy) QK.out (by rfl) ?_) | (go_at_call 57; refine H2.out.mono ?_; rintro e w12 ⟨rfl, hb12⟩))
            go_roundg (gk - 1)
            case measure => have := hnj.out; omega
            case rel => exact ⟨j + 1, g, o, cap, by have := hnj.out; show gk - 1 + (j + 1) = 4; omega, by go_num, by rw [FS.out], by rw [FS.out]; exact IX.out.step hb12, SX2.out.ext hb12, hgg⟩
          rw [hin] at H2
          obtain ⟨ux, uy, rfl, rfl, hux, huy, pu⟩ := inG_nat hin
          have KX := Lib.hid (fun V (hV : Below (wr.alloc (.cells #[.int .i64 ux, .int .i64 uy] 28)).heap.size (wr.alloc (.cells #[.int .i64 ux, .int .i64 uy] 28)) V) => GA2.out V (Ext.then_ IX.out.ext hV) ux uy hux huy)
          have zA : wr.heap.size < (wr.alloc (.cells #[.int .i64 ux, .int .i64 uy] 28)).heap.size := by simp
          by_cases hG : G (uy * W + ux) ≤ pv
          case neg =>
            have FS : Hid (T (j + 1) = T j) := by rw [Hid, TS.out, BS.see, if_neg]; simp [okW, pu, hG]
            have GN := Lib.hid hG
            generalize G (uy * W + ux) = gu at *
            have hgt : (decide (gu ≤ pv)) = false := by simpa using hG
            clear hf I hS hin hG
            go_wp2_with (at_lookup; refine wpList_lookF spotK _ (by rfl) _ _ _ true (by rfl) Try.underlying90 (zeroInt' _) (by rfl) IX.out.map ((ux : Int), (uy : Int)) QK.out (by rfl) ?_)
            refine H2.out.mono ?_
            rintro e w12 ⟨rfl, hb12⟩
            replace k13 := (hb12.cell (p := ⟨wr.heap.size, 0, none⟩) zA).trans k13
            replace l13 := (hb12.cell (p := ⟨wr.heap.size, 1, none⟩) zA).trans l13
            go_wp2_with fail
            refine (KX.out _ hb12).mono ?_
            rintro e w13 ⟨rfl, hb13'⟩
            go_wp2_with fail
            go_roundg (gk - 1)
            case measure => have := hnj.out; omega
            case rel => exact ⟨j + 1, g, o, cap, by have := hnj.out; show gk - 1 + (j + 1) = 4; omega, by go_num, by rw [FS.out], by rw [FS.out]; exact IX.out.step (Ext.then_ hb12 hb13'), SX2.out.ext (Ext.then_ hb12 hb13'), hgg⟩
          have FS : Hid (T (j + 1) = ⟨(T j).Q ++ [((ux : Int), (uy : Int))], fun x => if x = ((ux : Int), (uy : Int)) then some (d + 1) else (T j).f x⟩) := by
            rw [Hid, TS.out, BS.see, if_pos]; simp [okW, pu, hG, hf, hin]
          have GN := Lib.hid hG
          generalize G (uy * W + ux) = gu at *
          have hgt : (decide (gu ≤ pv)) = true := by simpa using hG
          clear hf I hS hin hG
          go_wp2_with (at_lookup; refine wpList_lookF spotK _ (by rfl) _ _ _ true (by rfl) Try.underlying90 (zeroInt' _) (by rfl) IX.out.map ((ux : Int), (uy : Int)) QK.out (by rfl) ?_)
          refine H2.out.mono ?_
          rintro e w12 ⟨rfl, hb12⟩
          replace k13 := (hb12.cell (p := ⟨wr.heap.size, 0, none⟩) zA).trans k13
          replace l13 := (hb12.cell (p := ⟨wr.heap.size, 1, none⟩) zA).trans l13
          go_wp2_with fail
          refine (KX.out _ hb12).mono ?_
          rintro e w13 ⟨rfl, hb13'⟩
          have zB : wr.heap.size < w12.heap.size := by have := hb12.size; omega
          replace k13 := (hb13'.cell (p := ⟨wr.heap.size, 0, none⟩) zB).trans k13
          replace l13 := (hb13'.cell (p := ⟨wr.heap.size, 1, none⟩) zB).trans l13
          have IW := Lib.hid (IX.out.step (Ext.then_ hb12 hb13'))
          have SW := Lib.hid (SX2.out.ext (Ext.then_ hb12 hb13'))
          obtain ⟨h0, h1⟩ := IW.out.head t3
          have PK : spOk ((px : Int), (py : Int)) := ⟨by simp only; omega, by simp only; omega⟩
          have LK : ∀ k, (Instr.lookup 90 (.map (some w7.heap.size)) (.agg #[.int .i64 px, .int .i64 py]) false).run Try.prog (w13.drewN k) = .ok (.int .i64 d) (w13.drewN k) := by
            intro k
            have := (IW.out.map.drewN k).lookup spotK Try.underlying90 (zeroInt' _) ((px : Int), (py : Int)) PK false
            simpa [fv, t4, spV] using this
          have jd : IntKind.i64.wrap ((d : Int) + 1) = (d : Int) + 1 := IntWalk.i64_in _ (by omega)
          obtain ⟨mj, hmj⟩ : ∃ mj, (T j).Q.length - i = mj := ⟨_, rfl⟩
          have HMJ := Lib.hid hmj
          rw [hmj]
          have mj0 : (0 : Int) < (mj : Int) := by omega
          have mj1 : mj ≤ 256 := by omega
          clear hfv GN H2 KX IX SX2 HI zA hmj
          go_wp2_with fail
          refine wp_region_quiet_tail 8 (by kernel_rfl) (by kernel_rfl) ?_
          simp only [List.take_succ_cons, List.take_zero, List.drop_succ_cons, List.drop_zero]
          repeat (go_big_quiet_step (fail))
          refine wpQuiet_nil ?_
          intro _ hw'
          obtain ⟨nq, hw''⟩ := hw'
          subst hw''
          have zW := IW.out.map.lt
          have hQ0 := IW.out.que
          rw [HMJ.out] at hQ0
          have hgB := hQ0.2.1
          have hgl := hQ0.lt
          have LW := hb12.size
          have LW2 := hb13'.size
          have kz : (w13.drewN nq).heap.size = w13.heap.size := rfl
          have hQ1 := Lib.hid (fun V (hV : (w13.drewN nq).grownBy V (some w7.heap.size)) => hQ0.of_block (w' := V) (hV.block g hgl (by simp; omega)))
          have hC1 := Lib.hid (fun V (hV : (w13.drewN nq).grownBy V (some w7.heap.size)) => hV.cell_far ⟨wr.heap.size, 0, none⟩ (by show wr.heap.size < w13.heap.size; omega) (by simp; omega))
          have hC2 := Lib.hid (fun V (hV : (w13.drewN nq).grownBy V (some w7.heap.size)) => hV.cell_far ⟨wr.heap.size, 1, none⟩ (by show wr.heap.size < w13.heap.size; omega) (by simp; omega))
          clear hQ0 h0 h1 LK kz
          go_wp2_with (first
            | (at_mapUpdate; refine wpList_putF spotK _ (by rfl) _ _ _ _ (by rfl) Try.underlying90 (by rfl) (IW.out.map.drewN nq) ((ux : Int), (uy : Int)) QK.out (by rfl) ?_; intro w14 hm14 hg14 hz14; have k14 := (hC1.out _ hg14).trans k13; have l14 := (hC2.out _ hg14).trans l13; have q14 := hQ1.out _ hg14; have hm14' : MapF spV spOk w14 w7.heap.size (putF (fv (T j).f) ((ux : Int), (uy : Int)) (.int .i64 ((d : Int) + 1))) := hm14; clear hm14 hz14)
            | (at_builtin; go_loud (refine wpList_appQ spotT (by rfl) _ _ (by rfl) (w7.heap.size + 1) g o mj cap (spL ((T j).Q.drop i)) (by rfl) (q14.ext (Ext.more (Ext.refl _) _)) w14.heap.size #[.int .i64 ux, .int .i64 uy] (by rfl) (heap_alloc_new _ _) rfl (by simp [Value.oneCell']) (by omega) ?_; intro g3 o3 cap3 w15 hq15 hg15 hat15)))
          have zz : w13.heap.size ≤ w14.heap.size := hg14.size
          have HP := Lib.hid ((IW.out.step (Ext.drawN (Ext.refl _) nq)).push (q := ((ux : Int), (uy : Int))) (d := d) (mj := mj) hm14' hg14 (by omega) HMJ.out hq15 hg15)
          have e15 : Hid ((T (j + 1)).Q.length - i = mj + 1) := by rw [Hid, FS.out]; have := HMJ.out; simp only [List.length_append, List.length_singleton]; omega
          have SP := SW.out
          have SP2 : SpAt w15 ga (arL px py) := by
            refine SpAt.grown (SpAt.ext (SpAt.grown (SP.ext (Ext.drawN (Ext.refl _) nq)) hg14 (by simp; have := SP.1; omega)) (Ext.more (Ext.refl _) (.cells #[.int .i64 ux, .int .i64 uy] 28))) hg15 (by simp; have := hgg.out; omega)
          have hgg3 : Hid (g3 < ga ∨ ga < g3) := by
            have h1 := hgg.out
            have h2 := SP.1
            simp at hat15
            rcases hat15 with rfl | rfl
            · exact h1
            · right; omega
          clear hq15 hg15 hat15 hm14' hg14 q14 k14 l14 SP
          go_wp2_with fail
          go_roundg (gk - 1)
          case measure => have := hnj.out; omega
          case rel => exact ⟨j + 1, g3, o3, cap3, by have := hnj.out; show gk - 1 + (j + 1) = 4; omega, by go_num, by rw [e15.out], by rw [FS.out]; exact HP.out, SP2, hgg3⟩
        · obtain rfl : j = 4 := by have := hnj.out; omega
          obtain ⟨t1, t2, t3, t4⟩ := hTI 4 (by omega)
          obtain ⟨mj, hmj⟩ : ∃ mj, (T 4).Q.length - i = mj := ⟨_, rfl⟩
          have hQ := I.que.tail (by omega)
          have e3 : (spL ((T 4).Q.drop i)).drop 2 = spL ((T 4).Q.drop (i + 1)) := by rw [t3]; rfl
          rw [e3] at hQ
          have e4 : (T 4).Q.length - i - 1 = (T 4).Q.length - (i + 1) := by omega
          rw [e4] at hQ
          have IN : Hid (WyI w7 (farS W H G pv ((b1 : Int), (b2 : Int)) (i + 1)) (i + 1) g (if cap = 1 then o else o + 2) (cap - 1) wr) := by rw [← HT4.out]; exact ⟨hQ, I.map, I.ext⟩
          have EN : Hid ((farS W H G pv ((b1 : Int), (b2 : Int)) (i + 1)).Q.length - (i + 1) = mj - 1) := by rw [Hid, ← HT4.out]; omega
          rw [hmj]
          have mj0 : (1 : Int) ≤ (mj : Int) := by omega
          clear hQ e3 e4 I hS t1 t2 t3 t4 hmj
          by_cases hc1 : cap = 1
          · subst hc1
            simp only [if_true, Nat.sub_self] at IN
            go_wp2_with fail
            go_roundg (gn - 1)
            case measure => have := hni.out; omega
            case rel => exact ⟨i + 1, g, o, 0, by have := hni.out; show gn - 1 + (i + 1) = W * H; omega, HN.out, by rw [EN.out], IN.out⟩
          · simp only [if_neg hc1] at IN
            go_wp2_with fail
            go_roundg (gn - 1)
            case measure => have := hni.out; omega
            case rel => exact ⟨i + 1, g, o + 2, cap - 1, by have := hni.out; show gn - 1 + (i + 1) = W * H; omega, HN.out, by rw [EN.out], IN.out⟩
    · obtain ⟨w10, rfl⟩ : ∃ w10, w10 = wr := ⟨_, rfl⟩
      have fe := farS_end hF.out hlt
      have FR := far_of fe.2 BG.out
      have RE := FR.reach IA.out IB.out (by rw [pa, pb]; exact PW.out)
      have e0 : (farS W H G pv ((b1 : Int), (b2 : Int)) i).Q.length - i = 0 := by omega
      have hM : MapF spV spOk w10 w7.heap.size (fv (farF W H G pv ((b1 : Int), (b2 : Int)))) := by rw [← fe.1]; exact I.map
      have hX := I.ext
      rw [e0]
      change Far W H G pv ((b1 : Int), (b2 : Int)) (farF W H G pv ((b1 : Int), (b2 : Int))) at FR
      change ∃ d, farF W H G pv ((b1 : Int), (b2 : Int)) ((a1 : Int), (a2 : Int)) = some d at RE
      clear fe e0 FX FL I hF hlt fl1 fl2 HS2 GA2 GX2 HAR hni hgn
      generalize farF W H G pv ((b1 : Int), (b2 : Int)) = F at *
      obtain ⟨d0, hd0⟩ := RE
      have d0l := (FR.low _ _ hd0).2.2
      have F4 : Hid (wv = ByteArray.mk ((dirs F d0 ((a1 : Int), (a2 : Int))).map letB).toArray) := by have := F3.out; rwa [hd0, Option.getD_some] at this
      clear F3
      have HFR := Lib.hid FR
      have HD0 := Lib.hid hd0
      have zm := hM.lt
      have z0 := hX.size
      have HB := Lib.hid (hb17.trans (hX.mono (by have := hb17.size; omega)))
      have k1 := (SX.out _ HB.out).1.cell 0
      have k2 := (SX.out _ HB.out).1.cell 1
      simp at k1 k2
      have l1 := (SX.out _ HB.out).1.lt
      have kA : (w10.alloc (.cells #[] 5)).cell? ⟨w.heap.size + 1, 0, none⟩ = some (.int .i64 a1) := ((Ext.more (Ext.refl w10) (.cells #[] 5)).cell (p := ⟨w.heap.size + 1, 0, none⟩) l1).trans k1
      have kB : (w10.alloc (.cells #[] 5)).cell? ⟨w.heap.size + 1, 1, none⟩ = some (.int .i64 a2) := ((Ext.more (Ext.refl w10) (.cells #[] 5)).cell (p := ⟨w.heap.size + 1, 1, none⟩) l1).trans k2
      have IdO := World.ownsRow_lit (e := 5) (size := 1) w10 #[] 0 (Nat.le_refl _) (by decide) rfl
      have ZA := dirs_len F d0 ((a1 : Int), (a2 : Int))
      obtain ⟨TL, hTL⟩ : ∃ TL, (dirs F d0 ((a1 : Int), (a2 : Int))).map letB = TL := ⟨_, rfl⟩
      rw [hTL] at F4
      have HTL : Hid ([] ++ (dirs F d0 ((a1 : Int), (a2 : Int))).map letB = TL) := hTL
      have hlT : TL.length = d0 := by rw [← hTL, List.length_map]; exact ZA
      have HBx := Lib.hid (fun V (hV : Below w10.heap.size w10 V) => (SX.out _ (Ext.then_ HB.out hV)).2)
      have HMx := Lib.hid (fun V (hV : Below w10.heap.size w10 V) => hM.ext hV)
      have I3 : Below w10.heap.size w10 ((w10.alloc (.cells #[] 5)).alloc (.cells #[.int .i64 a1, .int .i64 a2] 28)) := Ext.more (Ext.more (Ext.refl _) _) _
      have I4 : Blk ((w10.alloc (.cells #[] 5)).alloc (.cells #[.int .i64 a1, .int .i64 a2] 28)) (w10.heap.size + 1) 28 #[.int .i64 a1, .int .i64 a2] := by
        have := Blk.made (w10.alloc (.cells #[] 5)) 28 #[.int .i64 a1, .int .i64 a2]
        simpa using this
      have I5 := IdO.alloc (.cells #[.int .i64 a1, .int .i64 a2] 28)
      clear FR hd0 k1 k2 hTL ZA hM IdO
      go_wp2_with fail
      generalize (w10.alloc (.cells #[] 5)).alloc (.cells #[.int .i64 a1, .int .i64 a2] 28) = wy at *
      clear kA kB
      go_loopg [16, 17] d0 (fun n o16 p17 wx => ∃ (ab gb cb x y : Nat) (l : List UInt8), o16 = .slice (some ⟨gb, 0, none⟩) l.length cb ∧ p17 = .pointer (some ⟨ab, 0, none⟩) ∧ Hid (F ((x : Int), (y : Int)) = some n) ∧ Blk wx ab 28 #[.int .i64 x, .int .i64 y] ∧
        wx.ownsRow w10.heap.size 5 1 (.slice (some ⟨gb, 0, none⟩) l.length cb) l.length (u8s l) ∧ Below w10.heap.size w10 wx ∧ Hid (l ++ (dirs F n ((x : Int), (y : Int))).map letB = TL) ∧ w10.heap.size ≤ ab)
      case atStart => exact ⟨_, _, _, a1, a2, [], rfl, rfl, HD0, I4, I5, I3, HTL, by omega⟩
      case round =>
        obtain ⟨ab, gb, cb, x, y, l, rfl, rfl, hd, hP, hown, hb2, hl, hpb⟩ := hrel
        clear I3 I4 I5 HTL HD0
        obtain ⟨wo, rfl⟩ : ∃ wo, wo = wr := ⟨_, rfl⟩
        obtain ⟨n0, hn0⟩ : ∃ n0, n0 = gk := ⟨_, rfl⟩
        obtain ⟨gko, hgko⟩ : ∃ gko, gko = gk := ⟨_, rfl⟩
        have HN0 : Hid (n0 = gko) := hn0.trans hgko.symm
        have HGK := Lib.hid hgko
        rw [← hn0] at hd hl
        clear hn0 hgko
        have p0 := hP.cell 0
        have p1 := hP.cell 1
        have c0 := (HBx.out _ hb2).cell 0
        have c1 := (HBx.out _ hb2).cell 1
        simp at p0 p1 c0 c1
        have zz := HFR.out.zero ((x : Int), (y : Int))
        rw [hd.out] at zz
        cases n0 with
        | zero =>
          have e := zz.1 rfl
          rw [Prod.mk.injEq] at e
          obtain ⟨ex, ey⟩ := e
          rw [ex] at p0
          rw [ey] at p1
          clear zz
          have hs := str_of_own hown rfl
          go_wp2_with fail
          go_ret2
          have e1 := hl.out
          rw [dirs, List.map_nil, List.append_nil] at e1
          exact ⟨by rw [F4.out, ← e1]; rfl, Ext.then_ (B1.trans (HB.out.mono B1.size)) hb2⟩
        | succ d =>
          have hne : ¬ (((x : Int), (y : Int)) = ((b1 : Int), (b2 : Int))) := fun e => by have := zz.2 e; simp at this
          have hin := (HFR.out.low _ _ hd.out).1
          have hdl := (HFR.out.low _ _ hd.out).2.2
          have hbx := inG_iff.1 hin
          simp only at hbx
          obtain ⟨⟨_, hx1⟩, _, hy1⟩ := hbx
          have EXK := Lib.hid (HFR.out.back _ _ hd.out)
          have DIR := Lib.hid (fun (k : Nat) (hk : k < 4) (h : F (stepP ((x : Int), (y : Int)) k) = some d) (hn : ∀ j : Nat, j < k → F (stepP ((x : Int), (y : Int)) j) ≠ some d) => dirV_hit (f := F) (p := ((x : Int), (y : Int))) (d := d) hk h hn)
          have LOW := Lib.hid (fun (p : Int × Int) (e : Nat) (h : F p = some e) => inG_iff.1 (HFR.out.low p e h).1)
          have STP := Lib.hid (fun (k : Int) V hx hy hk => stepped_any (x : Int) (y : Int) k V hx hy hk)
          have jd : IntKind.i64.wrap ((d : Int) + 1 - 1) = (d : Int) := by rw [show (d : Int) + 1 - 1 = (d : Int) by omega]; exact IntWalk.i64_in _ (by omega)
          have PK : spOk ((x : Int), (y : Int)) := ⟨by simp only; omega, by simp only; omega⟩
          have LK : Hid (∀ V, Below w10.heap.size w10 V → (Instr.lookup 90 (.map (some w7.heap.size)) (.agg #[.int .i64 x, .int .i64 y]) false).run Try.prog V = .ok (.int .i64 ((d : Int) + 1)) V) := by
            intro V hV
            have := (HMx.out V hV).lookup spotK Try.underlying90 (zeroInt' _) ((x : Int), (y : Int)) PK false
            simpa [fv, hd.out, spV] using this
          clear zz hin
          by_cases hx : x = b1
          case' pos =>
            subst hx
            have hy : ¬ ((y : Int) = (b2 : Int)) := fun e => hne (by rw [e])
          case' neg =>
            have hx' : ¬ ((x : Int) = (b1 : Int)) := fun e => hx (by omega)
          all_goals
            clear hne
            go_upto_region 20 with fail
            go_wp2_with fail
            go_loopg [16, 18, 19, 20, 21, 99] 4 (fun n o16 _ _ _ _ kv wx => ∃ k : Nat, Hid (n + k = 4) ∧ kv = .int .i64 k ∧ o16 = .slice (some ⟨gb, 0, none⟩) l.length cb ∧ Hid (∀ j : Nat, j < k → F (stepP ((x : Int), (y : Int)) j) ≠ some d) ∧ Below wo.heap.size wo wx)
            case atStart => exact ⟨0, rfl, rfl, rfl, fun j hj => absurd hj (by omega), Ext.refl _⟩
            case round =>
              obtain ⟨k, hnk, rfl, rfl, hno, hb3⟩ := hrel
              by_cases hkl : k < 4
              · have i0 : (0 : Int) ≤ (k : Int) := by omega
                have i1 : (k : Int) < 4 := by omega
                have hb4 := Ext.then_ hb2 hb3
                have P2 := hP.under hb3 hP.lt
                have p2 := P2.cell 0
                have p3 := P2.cell 1
                simp at p2 p3
                have ST := Lib.hid (STP.out k wr (by omega) (by omega) (by omega))
                obtain ⟨q, hq⟩ : ∃ q, stepP ((x : Int), (y : Int)) k = q := ⟨_, rfl⟩
                have HQ := Lib.hid hq
                have qb : (-1 ≤ q.1 ∧ q.1 ≤ 16) ∧ -1 ≤ q.2 ∧ q.2 ≤ 16 := by
                  rw [← hq]
                  unfold stepP
                  split
                  · simp only; omega
                  split
                  · simp only; omega
                  split <;> (simp only; omega)
                rw [hq] at ST
                obtain ⟨⟨qb1, qb2⟩, qb3, qb4⟩ := qb
                have QK : Hid (spOk q) := ⟨by omega, by omega⟩
                clear hq p0 p1 c0 c1
                go_wp2_with fail
                refine ST.out.mono ?_
                rintro e w11 ⟨rfl, hb11⟩
                have hb5 := Ext.then_ hb4 hb11
                have hM11 := Lib.hid (fun V (hV : Below w11.heap.size w11 V) => HMx.out V (Ext.then_ hb5 hV))
                have hL11 := Lib.hid (fun V (hV : Below w11.heap.size w11 V) => LK.out V (Ext.then_ hb5 hV))
                have hP11 := P2.under hb11 P2.lt
                obtain ⟨q1, q2⟩ := q
                simp only at qb1 qb2 qb3 qb4 ⊢
                have k19 : (w11.alloc (.cells #[.int .i64 q1, .int .i64 q2] 28)).cell? ⟨w11.heap.size, 0, none⟩ = some (.int .i64 q1) := cell_new w11 _ _ 0
                have l19 : (w11.alloc (.cells #[.int .i64 q1, .int .i64 q2] 28)).cell? ⟨w11.heap.size, 1, none⟩ = some (.int .i64 q2) := cell_new w11 _ _ 1
                have XB := Ext.more (Ext.refl w11) (.cells #[.int .i64 q1, .int .i64 q2] 28)
                have MX := Lib.hid (hM11.out _ XB)
                have LX := hL11.out _ XB
                have hP12 := hP11.more (.cells #[.int .i64 q1, .int .i64 q2] 28)
                have p4 := hP12.cell 0
                have p5 := hP12.cell 1
                simp at p4 p5
                cases hf : F (q1, q2)
                · have hfv : fv F (q1, q2) = none := by simp [fv, hf]
                  go_wp2_with (at_lookup; refine wpList_lookF spotK _ (by rfl) _ _ _ true (by rfl) Try.underlying90 (zeroInt' _) (by rfl) MX.out (q1, q2) QK.out (by rfl) ?_)
                  go_roundg (gk - 1)
                  case measure => have := hnk.out; omega
                  case rel => exact ⟨k + 1, by have := hnk.out; show gk - 1 + (k + 1) = 4; omega, by go_num, rfl, fun j hj => by
                    by_cases e : j = k
                    · subst e; rw [HQ.out, hf]; simp
                    · exact hno.out j (by omega), (Ext.then_ hb3 hb11).trans (XB.mono (by have := hb3.size; have := hb11.size; omega))⟩
                rename_i e0
                have hfv : fv F (q1, q2) = some (.int .i64 (e0 : Int)) := by simp [fv, hf]
                by_cases he : e0 = d
                case neg =>
                  have hne3 : ¬ ((e0 : Int) = (d : Int)) := by omega
                  go_wp2_with (at_lookup; refine wpList_lookF spotK _ (by rfl) _ _ _ true (by rfl) Try.underlying90 (zeroInt' _) (by rfl) MX.out (q1, q2) QK.out (by rfl) ?_)
                  go_roundg (gk - 1)
                  case measure => have := hnk.out; omega
                  case rel => exact ⟨k + 1, by have := hnk.out; show gk - 1 + (k + 1) = 4; omega, by go_num, rfl, fun j hj => by
                    by_cases e : j = k
                    · subst e; rw [HQ.out, hf]; simpa using he
                    · exact hno.out j (by omega), (Ext.then_ hb3 hb11).trans (XB.mono (by have := hb3.size; have := hb11.size; omega))⟩
                subst he
                have lw := LOW.out _ _ hf
                simp only at lw
                obtain ⟨u1, rfl⟩ : ∃ u1 : Nat, q1 = u1 := ⟨q1.toNat, by omega⟩
                obtain ⟨u2, rfl⟩ : ∃ u2 : Nat, q2 = u2 := ⟨q2.toNat, by omega⟩
                have DK := Lib.hid (DIR.out k hkl (by rw [HQ.out]; exact hf) hno.out)
                have HF := Lib.hid hf
                clear hf
                go_wp2_with (at_lookup; refine wpList_lookF spotK _ (by rfl) _ _ _ true (by rfl) Try.underlying90 (zeroInt' _) (by rfl) MX.out ((u1 : Int), (u2 : Int)) QK.out (by rfl) ?_)
                have hb12 : Below w10.heap.size w10 (w11.alloc (.cells #[.int .i64 u1, .int .i64 u2] 28)) := Ext.then_ hb5 XB
                have hwr12 : Below wo.heap.size wo (w11.alloc (.cells #[.int .i64 u1, .int .i64 u2] 28)) := (Ext.then_ hb3 hb11).trans (XB.mono (by have := hb3.size; have := hb11.size; omega))
                have OWx := Lib.hid (fun V (hV : Below (w11.alloc (.cells #[.int .i64 u1, .int .i64 u2] 28)).heap.size (w11.alloc (.cells #[.int .i64 u1, .int .i64 u2] 28)) V) => own_ext (hwr12.trans (hV.mono (by have := hwr12.size; omega))) hown)
                have P12 := Lib.hid hP12
                have s19 : w11.heap.size < (w11.alloc (.cells #[.int .i64 u1, .int .i64 u2] 28)).heap.size := by simp
                have spb : ab < (w11.alloc (.cells #[.int .i64 u1, .int .i64 u2] 28)).heap.size := hP12.lt
                have gbl := hown.lt gb rfl
                have gne : gb ≠ ab := fun e => own_blk_ne hown hP (by decide) (by rw [e]; rfl)
                have gne2 : gb < w11.heap.size := by have := hb3.size; have := hb11.size; omega
                have hll : l.length ≤ 1000 := by have := congrArg List.length hl.out; simp at this; omega
                have kk : k = 0 ∨ k = 1 ∨ k = 2 ∨ k = 3 := by omega
                have z11 : w10.heap.size ≤ w11.heap.size := hb5.size
                generalize w11.alloc (.cells #[.int .i64 u1, .int .i64 u2] 28) = w12 at *
                obtain ⟨pq, hpq⟩ : ∃ pq, w11.heap.size = pq := ⟨_, rfl⟩
                rw [hpq] at k19 l19 s19 gne2 z11
                simp only [hpq]
                clear hpq
                have KK := Lib.hid (fun V (hV : Below w12.heap.size w12 V) V2 (hg : V.grownBy V2 (some gb)) => (show V2.cell? ⟨pq, 0, none⟩ = some (.int .i64 u1) ∧ V2.cell? ⟨pq, 1, none⟩ = some (.int .i64 u2) ∧ Blk V2 ab 28 #[.int .i64 x, .int .i64 y] from
                  ⟨(hg.cell_far ⟨pq, 0, none⟩ (by have := hV.size; show pq < V.heap.size; omega) (by simp; omega)).trans ((hV.cell (p := ⟨pq, 0, none⟩) s19).trans k19), (hg.cell_far ⟨pq, 1, none⟩ (by have := hV.size; show pq < V.heap.size; omega) (by simp; omega)).trans ((hV.cell (p := ⟨pq, 1, none⟩) s19).trans l19), (P12.out.under hV P12.out.lt).by_grown hg (by simp; omega)⟩))
                have HL : Hid (∀ kb : UInt8, kb = letB k → (l ++ [kb]) ++ (dirs F e0 ((u1 : Int), (u2 : Int))).map letB = TL) := by
                  intro kb hkb
                  rw [← hl.out, dirs, DK.out, HQ.out, List.map_cons, hkb, List.append_assoc]
                  rfl
                have HN1 : Hid (e0 + 1 = gko) := HN0.out
                rcases kk with rfl | rfl | rfl | rfl
                · go_region_law (first
                    | (refine step_app byteT (by rfl) _ _ (by rfl) w10.heap.size (.slice (some ⟨gb, 0, none⟩) l.length cb) l.length (u8s l) (by rfl) (OWx.out _ (Ext.more (Ext.draw (Ext.refl _)) _)) _ #[.int .u8 _] (by rfl) (heap_alloc_new _ _) rfl (by simp [Value.oneCell']) (by omega) (by simp; omega) ?_; intro g2 cap2 w2 hown2 hgrow2 hat2 hlt2; obtain ⟨f0, f1, P13⟩ := KK.out _ (Ext.more (Ext.draw (Ext.refl _)) _) _ hgrow2; have f2 := P13.cell 0; have f3 := P13.cell 1; have f4 := P13.free 0; have f5 := P13.free 1; simp at f2 f3))
                  all_goals
                    have P14 := (P13.store 0 (.int .i64 u1)).store 1 (.int .i64 u2)
                    have B3 : Below w10.heap.size w10 ((w2.setCell ⟨ab, 0, none⟩ (.int .i64 u1)).setCell ⟨ab, 1, none⟩ (.int .i64 u2)) :=
                      (((((hb12.drew).alloc (by have := hb12.size; simpa using this) (.cells #[.int .u8 100] 5)).grown hgrow2 (by have := hb12.size; simp; omega) (fun z hz => by have := Option.some.inj (show some gb = some z from hz); omega)).setCell (p := ⟨ab, 0, none⟩) hpb _).setCell (p := ⟨ab, 1, none⟩) hpb _)
                    have O3 : ((w2.setCell ⟨ab, 0, none⟩ (.int .i64 u1)).setCell ⟨ab, 1, none⟩ (.int .i64 u2)).ownsRow w10.heap.size 5 1 (.slice (some ⟨g2, 0, none⟩) (l.length + 1) cap2) (l.length + 1) (u8s (l ++ [100])) := by
                      have e : u8s (l ++ [100]) = u8s l ++ #[Value.int .u8 100].toList := by simp [u8s]
                      rw [e]
                      have hga : g2 ≠ ab := by
                        have h1 := P12.out.lt
                        simp [Value.ownBlock] at hat2
                        rcases hat2 with rfl | rfl
                        · exact gne
                        · omega
                      exact (((Chg.refl (fun b => b = ab) w2).store (p := ⟨ab, 0, none⟩) rfl _).store (p := ⟨ab, 1, none⟩) rfl _).own hown2 (fun z hz => by have := Option.some.inj (show some g2 = some z from hz); rintro rfl; exact hga this)
                    simp at P14
                    have HL2 := HL.out 100 rfl
                    have HL3 := Lib.hid HL2
                    have s14 := P14.cell 0
                    have s15 := P14.cell 1
                    simp at s14 s15
                    clear hown2 hgrow2 hat2 f0 f1 f2 f3 f4 f5 P13 HL2 HL
                    generalize (w2.setCell ⟨ab, 0, none⟩ (.int .i64 u1)).setCell ⟨ab, 1, none⟩ (.int .i64 u2) = w20 at *
                    go_wp2_with fail
                    go_roundg e0
                    case measure => have := HN1.out; have := HGK.out; omega
                    case rel => exact ⟨_, g2, cap2, u1, u2, l ++ [100], by simp, rfl, HF.out, Blk.made w20 _ _, by simpa using O3.alloc _, Ext.more B3 _, HL3.out, by have := B3.size; omega⟩
                · go_region_law (first
                    | (refine step_app byteT (by rfl) _ _ (by rfl) w10.heap.size (.slice (some ⟨gb, 0, none⟩) l.length cb) l.length (u8s l) (by rfl) (OWx.out _ (Ext.more (Ext.draw (Ext.refl _)) _)) _ #[.int .u8 _] (by rfl) (heap_alloc_new _ _) rfl (by simp [Value.oneCell']) (by omega) (by simp; omega) ?_; intro g2 cap2 w2 hown2 hgrow2 hat2 hlt2; obtain ⟨f0, f1, P13⟩ := KK.out _ (Ext.more (Ext.draw (Ext.refl _)) _) _ hgrow2; have f2 := P13.cell 0; have f3 := P13.cell 1; have f4 := P13.free 0; have f5 := P13.free 1; simp at f2 f3))
                  all_goals
                    have P14 := (P13.store 0 (.int .i64 u1)).store 1 (.int .i64 u2)
                    have B3 : Below w10.heap.size w10 ((w2.setCell ⟨ab, 0, none⟩ (.int .i64 u1)).setCell ⟨ab, 1, none⟩ (.int .i64 u2)) :=
                      (((((hb12.drew).alloc (by have := hb12.size; simpa using this) (.cells #[.int .u8 108] 5)).grown hgrow2 (by have := hb12.size; simp; omega) (fun z hz => by have := Option.some.inj (show some gb = some z from hz); omega)).setCell (p := ⟨ab, 0, none⟩) hpb _).setCell (p := ⟨ab, 1, none⟩) hpb _)
                    have O3 : ((w2.setCell ⟨ab, 0, none⟩ (.int .i64 u1)).setCell ⟨ab, 1, none⟩ (.int .i64 u2)).ownsRow w10.heap.size 5 1 (.slice (some ⟨g2, 0, none⟩) (l.length + 1) cap2) (l.length + 1) (u8s (l ++ [108])) := by
                      have e : u8s (l ++ [108]) = u8s l ++ #[Value.int .u8 108].toList := by simp [u8s]
                      rw [e]
                      have hga : g2 ≠ ab := by
                        have h1 := P12.out.lt
                        simp [Value.ownBlock] at hat2
                        rcases hat2 with rfl | rfl
                        · exact gne
                        · omega
                      exact (((Chg.refl (fun b => b = ab) w2).store (p := ⟨ab, 0, none⟩) rfl _).store (p := ⟨ab, 1, none⟩) rfl _).own hown2 (fun z hz => by have := Option.some.inj (show some g2 = some z from hz); rintro rfl; exact hga this)
                    simp at P14
                    have HL2 := HL.out 108 rfl
                    have HL3 := Lib.hid HL2
                    have s14 := P14.cell 0
                    have s15 := P14.cell 1
                    simp at s14 s15
                    clear hown2 hgrow2 hat2 f0 f1 f2 f3 f4 f5 P13 HL2 HL
                    generalize (w2.setCell ⟨ab, 0, none⟩ (.int .i64 u1)).setCell ⟨ab, 1, none⟩ (.int .i64 u2) = w20 at *
                    go_wp2_with fail
                    go_roundg e0
                    case measure => have := HN1.out; have := HGK.out; omega
                    case rel => exact ⟨_, g2, cap2, u1, u2, l ++ [108], by simp, rfl, HF.out, Blk.made w20 _ _, by simpa using O3.alloc _, Ext.more B3 _, HL3.out, by have := B3.size; omega⟩
                · go_region_law (first
                    | (refine step_app byteT (by rfl) _ _ (by rfl) w10.heap.size (.slice (some ⟨gb, 0, none⟩) l.length cb) l.length (u8s l) (by rfl) (OWx.out _ (Ext.more (Ext.draw (Ext.refl _)) _)) _ #[.int .u8 _] (by rfl) (heap_alloc_new _ _) rfl (by simp [Value.oneCell']) (by omega) (by simp; omega) ?_; intro g2 cap2 w2 hown2 hgrow2 hat2 hlt2; obtain ⟨f0, f1, P13⟩ := KK.out _ (Ext.more (Ext.draw (Ext.refl _)) _) _ hgrow2; have f2 := P13.cell 0; have f3 := P13.cell 1; have f4 := P13.free 0; have f5 := P13.free 1; simp at f2 f3))
                  all_goals
                    have P14 := (P13.store 0 (.int .i64 u1)).store 1 (.int .i64 u2)
                    have B3 : Below w10.heap.size w10 ((w2.setCell ⟨ab, 0, none⟩ (.int .i64 u1)).setCell ⟨ab, 1, none⟩ (.int .i64 u2)) :=
                      (((((hb12.drew).alloc (by have := hb12.size; simpa using this) (.cells #[.int .u8 114] 5)).grown hgrow2 (by have := hb12.size; simp; omega) (fun z hz => by have := Option.some.inj (show some gb = some z from hz); omega)).setCell (p := ⟨ab, 0, none⟩) hpb _).setCell (p := ⟨ab, 1, none⟩) hpb _)
                    have O3 : ((w2.setCell ⟨ab, 0, none⟩ (.int .i64 u1)).setCell ⟨ab, 1, none⟩ (.int .i64 u2)).ownsRow w10.heap.size 5 1 (.slice (some ⟨g2, 0, none⟩) (l.length + 1) cap2) (l.length + 1) (u8s (l ++ [114])) := by
                      have e : u8s (l ++ [114]) = u8s l ++ #[Value.int .u8 114].toList := by simp [u8s]
                      rw [e]
                      have hga : g2 ≠ ab := by
                        have h1 := P12.out.lt
                        simp [Value.ownBlock] at hat2
                        rcases hat2 with rfl | rfl
                        · exact gne
                        · omega
                      exact (((Chg.refl (fun b => b = ab) w2).store (p := ⟨ab, 0, none⟩) rfl _).store (p := ⟨ab, 1, none⟩) rfl _).own hown2 (fun z hz => by have := Option.some.inj (show some g2 = some z from hz); rintro rfl; exact hga this)
                    simp at P14
                    have HL2 := HL.out 114 rfl
                    have HL3 := Lib.hid HL2
                    have s14 := P14.cell 0
                    have s15 := P14.cell 1
                    simp at s14 s15
                    clear hown2 hgrow2 hat2 f0 f1 f2 f3 f4 f5 P13 HL2 HL
                    generalize (w2.setCell ⟨ab, 0, none⟩ (.int .i64 u1)).setCell ⟨ab, 1, none⟩ (.int .i64 u2) = w20 at *
                    go_wp2_with fail
                    go_roundg e0
                    case measure => have := HN1.out; have := HGK.out; omega
                    case rel => exact ⟨_, g2, cap2, u1, u2, l ++ [114], by simp, rfl, HF.out, Blk.made w20 _ _, by simpa using O3.alloc _, Ext.more B3 _, HL3.out, by have := B3.size; omega⟩
                · go_region_law (first
                    | (refine step_app byteT (by rfl) _ _ (by rfl) w10.heap.size (.slice (some ⟨gb, 0, none⟩) l.length cb) l.length (u8s l) (by rfl) (OWx.out _ (Ext.more (Ext.draw (Ext.refl _)) _)) _ #[.int .u8 _] (by rfl) (heap_alloc_new _ _) rfl (by simp [Value.oneCell']) (by omega) (by simp; omega) ?_; intro g2 cap2 w2 hown2 hgrow2 hat2 hlt2; obtain ⟨f0, f1, P13⟩ := KK.out _ (Ext.more (Ext.draw (Ext.refl _)) _) _ hgrow2; have f2 := P13.cell 0; have f3 := P13.cell 1; have f4 := P13.free 0; have f5 := P13.free 1; simp at f2 f3))
                  all_goals
                    have P14 := (P13.store 0 (.int .i64 u1)).store 1 (.int .i64 u2)
                    have B3 : Below w10.heap.size w10 ((w2.setCell ⟨ab, 0, none⟩ (.int .i64 u1)).setCell ⟨ab, 1, none⟩ (.int .i64 u2)) :=
                      (((((hb12.drew).alloc (by have := hb12.size; simpa using this) (.cells #[.int .u8 117] 5)).grown hgrow2 (by have := hb12.size; simp; omega) (fun z hz => by have := Option.some.inj (show some gb = some z from hz); omega)).setCell (p := ⟨ab, 0, none⟩) hpb _).setCell (p := ⟨ab, 1, none⟩) hpb _)
                    have O3 : ((w2.setCell ⟨ab, 0, none⟩ (.int .i64 u1)).setCell ⟨ab, 1, none⟩ (.int .i64 u2)).ownsRow w10.heap.size 5 1 (.slice (some ⟨g2, 0, none⟩) (l.length + 1) cap2) (l.length + 1) (u8s (l ++ [117])) := by
                      have e : u8s (l ++ [117]) = u8s l ++ #[Value.int .u8 117].toList := by simp [u8s]
                      rw [e]
                      have hga : g2 ≠ ab := by
                        have h1 := P12.out.lt
                        simp [Value.ownBlock] at hat2
                        rcases hat2 with rfl | rfl
                        · exact gne
                        · omega
                      exact (((Chg.refl (fun b => b = ab) w2).store (p := ⟨ab, 0, none⟩) rfl _).store (p := ⟨ab, 1, none⟩) rfl _).own hown2 (fun z hz => by have := Option.some.inj (show some g2 = some z from hz); rintro rfl; exact hga this)
                    simp at P14
                    have HL2 := HL.out 117 rfl
                    have HL3 := Lib.hid HL2
                    have s14 := P14.cell 0
                    have s15 := P14.cell 1
                    simp at s14 s15
                    clear hown2 hgrow2 hat2 f0 f1 f2 f3 f4 f5 P13 HL2 HL
                    generalize (w2.setCell ⟨ab, 0, none⟩ (.int .i64 u1)).setCell ⟨ab, 1, none⟩ (.int .i64 u2) = w20 at *
                    go_wp2_with fail
                    go_roundg e0
                    case measure => have := HN1.out; have := HGK.out; omega
                    case rel => exact ⟨_, g2, cap2, u1, u2, l ++ [117], by simp, rfl, HF.out, Blk.made w20 _ _, by simpa using O3.alloc _, Ext.more B3 _, HL3.out, by have := B3.size; omega⟩
              · obtain rfl : k = 4 := by have := hnk.out; omega
                obtain ⟨k, hk, hfk⟩ := EXK.out
                exact absurd hfk (hno.out k hk)
end Go.Proofs.Ytajepoopicoodaa
