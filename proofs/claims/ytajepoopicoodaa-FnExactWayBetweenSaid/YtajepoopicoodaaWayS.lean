/- The reference's way between two pixels. -/
import Derived.Test.YtajepoopicoodaaWayM
import Derived.Test.YtajepoopicoodaaWayN
import Derived.Test.YtajepoopicoodaaEowS
import Derived.Deep.LoopGhost
import Derived.Deep.RegionHeld3
namespace Go.Proofs.Ytajepoopicoodaa
open Go.RowKit

theorem below_drewN {B : Nat} {a b : World} (h : Below B a b) (n : Nat) : Below B a (b.drewN n) := ⟨h.os, h.tape, h.output, h.size, h.block⟩
theorem Blk.drewN {w : World} {g : Nat} {t : TypeId} {cs : Array Value} (h : Blk w g t cs) (n : Nat) : Blk (w.drewN n) g t cs := h
set_option maxRecDepth 100000 in
set_option maxHeartbeats 8000000 in
theorem wayBetweenS_any (A : Option Addr) (c : Nat) (rows : List (List Int)) (ax ay bx b_y : Int) (w : World) (h : MatRd w A rows) (hn : rows.length ≤ 1000000000) (hr : ∀ i (h : i < rows.length), rows[i].length ≤ 1000000000) :
    Calls Try.prog 34 #[.agg #[.slice A rows.length c], .agg #[.int .i64 ax, .int .i64 ay], .agg #[.int .i64 bx, .int .i64 b_y]] w fun e w' => e = .returned (.tuple #[.string (wayV rows ax ay bx b_y), .bool (passOk rows ax ay bx b_y)]) ∧ Below w.heap.size w w' := by
  obtain ⟨wB, hwB⟩ : ∃ wB, ((w.alloc (.cells #[.slice A rows.length c] 31)).alloc (.cells #[.int .i64 ax, .int .i64 ay] 28)).alloc (.cells #[.int .i64 bx, .int .i64 b_y] 28) = wB := ⟨_, rfl⟩
  have B1 : Below w.heap.size w wB := by rw [← hwB]; exact Ext.more (Ext.more (Ext.more (Ext.refl _) _) _) _
  have G1 : GreyAt wB w.heap.size A c rows := by rw [← hwB]; exact (grey_box h).ext (Ext.more (Ext.more (Ext.refl _) _) _)
  have S0 : Blk wB (w.heap.size + 1) 28 #[.int .i64 ax, .int .i64 ay] := by
    have := (Blk.made (w.alloc (.cells #[.slice A rows.length c] 31)) 28 #[.int .i64 ax, .int .i64 ay]).more (.cells #[.int .i64 bx, .int .i64 b_y] 28)
    rw [hwB] at this; simpa using this
  have S1 : Blk wB (w.heap.size + 1 + 1) 28 #[.int .i64 bx, .int .i64 b_y] := by
    have := Blk.made ((w.alloc (.cells #[.slice A rows.length c] 31)).alloc (.cells #[.int .i64 ax, .int .i64 ay] 28)) 28 #[.int .i64 bx, .int .i64 b_y]
    rw [hwB] at this; simpa using this
  have VG := Lib.hid (fun V (hV : GreyAt V w.heap.size A c rows) => isGreyS_any w.heap.size A c rows V hV hn hr)
  have GX := Lib.hid (fun V (hb : Below wB.heap.size wB V) => G1.ext hb)
  have SX := Lib.hid (fun V (hb : Below wB.heap.size wB V) => And.intro (S0.under hb S0.lt) (S1.under hb S1.lt))
  have c0 := G1.cell
  obtain ⟨W, hW⟩ : ∃ W, tabW rows = W := ⟨_, rfl⟩
  obtain ⟨H, hH⟩ : ∃ H, rows.length = H := ⟨_, rfl⟩
  rw [hH] at c0 hwB ⊢
  cases hg : greyOk rows
  · have F : Hid (passOk rows ax ay bx b_y = false) := by simp [Hid, passOk, inR, hg]
    have F2 : Hid (wayV rows ax ay bx b_y = ByteArray.empty) := by rw [Hid, wayV, F.out]; rfl
    rw [hg] at VG
    rw [F.out, F2.out]
    clear hg hn hr h hW hH G1
    go_enter Try.func34, Try.ntmps34
    go_wp2_with fail
    try simp only [hwB]
    refine (VG.out _ (GX.out _ (Ext.refl _))).mono ?_
    rintro e w2 ⟨rfl, nq, rfl⟩
    have hb : Below wB.heap.size wB (wB.drewN nq) := Ext.drawN (Ext.refl _) _
    generalize wB.drewN nq = w2 at *
    go_wp2_with fail
    go_ret2
    exact ⟨rfl, Ext.then_ B1 hb⟩
  rw [hg] at VG
  obtain ⟨s1, s2, s3, s4⟩ := tab_sizes hg
  have GN : GreyN rows W H (W * H) := ⟨hg, hW, hH, rfl⟩
  have PS := Lib.hid (fun (x y : Int) V (hV : GreyAt V w.heap.size A c rows) => placeS_any w.heap.size A c rows W H x y V hV hW hH (by omega) (by omega) (by omega))
  have PA := Lib.hid (fun V (hV : GreyAt V w.heap.size A c rows) => PS.out ax ay V hV)
  have PB := Lib.hid (fun V (hV : GreyAt V w.heap.size A c rows) => PS.out bx b_y V hV)
  cases ha : inG W H (ax, ay)
  · rw [ha] at PA
    have F : Hid (passOk rows ax ay bx b_y = false) := by simp [Hid, passOk, inR, hW, hH, ha]
    have F2 : Hid (wayV rows ax ay bx b_y = ByteArray.empty) := by rw [Hid, wayV, F.out]; rfl
    rw [F.out, F2.out]
    clear hg hn hr h hW hH G1 s1 s2 s3 s4 ha PS GN
    generalize inG W H (bx, b_y) = bb at *
    generalize plcO W H ax ay = pa at *
    generalize plcO W H bx b_y = pb at *
    go_enter Try.func34, Try.ntmps34
    go_wp2_with fail
    try simp only [hwB]
    refine (VG.out _ (GX.out _ (Ext.refl _))).mono ?_
    rintro e w2 ⟨rfl, nq, rfl⟩
    have hb : Below wB.heap.size wB (wB.drewN nq) := Ext.drawN (Ext.refl _) _
    generalize wB.drewN nq = w2 at *
    have k0 := (SX.out _ hb).1.cell 0
    have k1 := (SX.out _ hb).1.cell 1
    simp at k0 k1
    go_wp2_with fail
    refine (PA.out _ (GX.out _ hb)).mono ?_
    rintro e w3 ⟨rfl, hb3⟩
    have hb13 := Ext.then_ hb hb3
    have k2 := (SX.out _ hb13).2.cell 0
    have k3 := (SX.out _ hb13).2.cell 1
    simp at k2 k3
    clear k0 k1
    go_wp2_with fail
    refine (PB.out _ (GX.out _ hb13)).mono ?_
    rintro e w4 ⟨rfl, hb4⟩
    have hb14 := Ext.then_ hb13 hb4
    clear k2 k3
    go_wp2_with fail
    go_ret2
    exact ⟨rfl, Ext.then_ B1 hb14⟩
  cases hbq : inG W H (bx, b_y)
  · rw [ha] at PA
    rw [hbq] at PB
    have F : Hid (passOk rows ax ay bx b_y = false) := by simp [Hid, passOk, inR, hW, hH, hbq]
    have F2 : Hid (wayV rows ax ay bx b_y = ByteArray.empty) := by rw [Hid, wayV, F.out]; rfl
    rw [F.out, F2.out]
    clear hg hn hr h hW hH G1 s1 s2 s3 s4 ha hbq PS GN
    generalize plcO W H ax ay = pa at *
    generalize plcO W H bx b_y = pb at *
    go_enter Try.func34, Try.ntmps34
    go_wp2_with fail
    try simp only [hwB]
    refine (VG.out _ (GX.out _ (Ext.refl _))).mono ?_
    rintro e w2 ⟨rfl, nq, rfl⟩
    have hb : Below wB.heap.size wB (wB.drewN nq) := Ext.drawN (Ext.refl _) _
    generalize wB.drewN nq = w2 at *
    have k0 := (SX.out _ hb).1.cell 0
    have k1 := (SX.out _ hb).1.cell 1
    simp at k0 k1
    go_wp2_with fail
    refine (PA.out _ (GX.out _ hb)).mono ?_
    rintro e w3 ⟨rfl, hb3⟩
    have hb13 := Ext.then_ hb hb3
    have k2 := (SX.out _ hb13).2.cell 0
    have k3 := (SX.out _ hb13).2.cell 1
    simp at k2 k3
    clear k0 k1
    go_wp2_with fail
    refine (PB.out _ (GX.out _ hb13)).mono ?_
    rintro e w4 ⟨rfl, hb4⟩
    have hb14 := Ext.then_ hb13 hb4
    clear k2 k3
    go_wp2_with fail
    go_ret2
    exact ⟨rfl, Ext.then_ B1 hb14⟩
  obtain ⟨a1, a2, rfl, rfl, ha1, ha2, pa⟩ := inG_nat ha
  obtain ⟨b1, b2, rfl, rfl, hb1, hb2, pb⟩ := inG_nat hbq
  have F : Hid (passOk rows a1 a2 b1 b2 = true) := by simp [Hid, passOk, inR, hW, hH, hbq, ha, hg]
  have F2 : Hid (∀ O, IsPass W (W * H) (gF rows W) (fun i => i = a2 * W + a1) O → O (b2 * W + b1) = passV rows a1 a2 b1 b2) := by
    intro O hO
    rw [passV, F.out, if_pos rfl, passAt, pR, pR, hW, hH, pa, pb]
    exact (passL_get hO (pl_lt hb1 hb2)).symm
  have F3 : Hid (wayV rows a1 a2 b1 b2 = ByteArray.mk ((dirs (farF W H (gF rows W) (passV rows a1 a2 b1 b2) (b1, b2)) (((farF W H (gF rows W) (passV rows a1 a2 b1 b2) (b1, b2)) (a1, a2)).getD 0) (a1, a2)).map letB).toArray) := by
    rw [Hid, wayV, F.out, if_pos rfl, hW, hH]
  have HH := Lib.hid hH
  have GB : Hid (∀ i, i < W * H → 0 ≤ gF rows W i ∧ gF rows W i ≤ 99) := by rw [← hH]; exact gF_bd hg hW
  rw [ha, plcO, if_pos ha, pa] at PA
  rw [hbq, plcO, if_pos hbq, pb] at PB
  have HE := Lib.hid (fun V (hV : GreyAt V w.heap.size A c rows) => passS_any w.heap.size A c rows W H (W * H) (a2 * W + a1) (b2 * W + b1) V hV GN (pl_lt ha1 ha2) (pl_lt hb1 hb2))
  have LS := Lib.hid (fun V (hV : GreyAt V w.heap.size A c rows) => list_any A c rows W H (W * H) V hV.rd hH GN.row (by omega) (by omega) (by omega) (Nat.mul_comm H W))
  have WS := Lib.hid (fun V (hV : GreyAt V w.heap.size A c rows) => widthG_any w.heap.size A c rows V hV (by omega))
  rw [hW] at WS
  have GG : Hid (∀ i, i < W * H → rows.flatten.getD i 0 = gF rows W i) := GN.get
  have GLn : Hid (rows.flatten.length = W * H) := GN.len
  have IB := Lib.hid hbq
  have IA := Lib.hid ha
  have hWl : W ≤ 16 := by omega
  have hHl : H ≤ 16 := by omega
  have hW1 : 0 < W := by omega
  have hnl : W * H ≤ 256 := Nat.le_trans (Nat.mul_le_mul hWl hHl) (by decide)
  have NA := Lib.hid (fun k (hk : k < W * H) V => near_any W H (W * H) k V hW1 hWl hHl rfl hk)
  rw [F.out]
  generalize wayV rows a1 a2 b1 b2 = wv at *
  generalize passV rows a1 a2 b1 b2 = pv at *
  generalize rows.flatten = fl at *
  generalize gF rows W = G at *
  have qaL : a2 * W + a1 < W * H := pl_lt ha1 ha2
  have qbL : b2 * W + b1 < W * H := pl_lt hb1 hb2
  obtain ⟨i0, hi0, hz0, hz1, hz2⟩ := info_parts intInfo
  have hmk : ∀ V : World, (Instr.makeSlice 51 (.int .i64 ((W * H : Nat) : Int)) (.int .i64 ((W * H : Nat) : Int))).run Try.prog V = .ok (.slice (some ⟨V.heap.size, 0, none⟩) (W * H) (W * H)) (V.alloc (.cells (intC (fL (fun _ => 0) (W * H))) 2)) := by
    intro V
    have h := run_make (P := Try.prog) V 51 2 i0 _ Try.underlying51 hi0 hz0 .i64 .i64 ((W * H : Nat) : Int) ((W * H : Nat) : Int) (by omega) (Int.le_refl _) (by rw [hz2]; omega) (by omega)
    rw [h, hz1, Int.toNat_natCast]
    show Result.ok _ (V.alloc (.cells (madeCells #[.int .i64 0] (W * H * 1)) _)) = _
    rw [Nat.mul_one, intC_made]
  clear hg hn hr h hH G1 s1 s2 s3 s4 ha hbq GN hi0 hz0 hz1 hz2 F
  obtain ⟨n, hnn⟩ : ∃ n, W * H = n := ⟨_, rfl⟩
  have HNN := Lib.hid hnn
  rw [hnn] at hnl qaL qbL
  simp only [hnn] at hmk LS HE NA
  clear hnn
  obtain ⟨qa, hqa⟩ : ∃ qa, a2 * W + a1 = qa := ⟨_, rfl⟩
  obtain ⟨qb, hqb⟩ : ∃ qb, b2 * W + b1 = qb := ⟨_, rfl⟩
  have HQA := Lib.hid hqa
  have HQB := Lib.hid hqb
  rw [hqa] at qaL PA HE
  rw [hqb] at qbL PB HE
  clear hqa hqb
  go_enter Try.func34, Try.ntmps34
  go_wp2_with fail
  try simp only [hwB]
  refine (VG.out _ (GX.out _ (Ext.refl _))).mono ?_
  rintro e w2 ⟨rfl, nq, rfl⟩
  have hb : Below wB.heap.size wB (wB.drewN nq) := Ext.drawN (Ext.refl _) _
  generalize wB.drewN nq = w2 at *
  have k0 := (SX.out _ hb).1.cell 0
  have k1 := (SX.out _ hb).1.cell 1
  simp at k0 k1
  go_wp2_with fail
  refine (PA.out _ (GX.out _ hb)).mono ?_
  rintro e w3 ⟨rfl, hb3⟩
  have hb13 := Ext.then_ hb hb3
  have k2 := (SX.out _ hb13).2.cell 0
  have k3 := (SX.out _ hb13).2.cell 1
  simp at k2 k3
  clear k0 k1
  go_wp2_with fail
  refine (PB.out _ (GX.out _ hb13)).mono ?_
  rintro e w4 ⟨rfl, hb4⟩
  have hb14 := Ext.then_ hb13 hb4
  have g0 := (GX.out _ hb14).cell
  rw [HH.out] at g0
  clear k2 k3
  go_wp2_with fail
  refine (LS.out _ (GX.out _ hb14)).mono ?_
  rintro e w5 ⟨A5, c5, rfl, own5, hb5⟩
  have hb15 := Ext.then_ hb14 hb5
  go_wp2_with fail
  refine (HE.out _ (GX.out _ hb15)).mono ?_
  rintro e w6 ⟨⟨O, rfl, hP⟩, hb6⟩
  have hb16 := Ext.then_ hb15 hb6
  have PV : Hid (O qb = pv) := by have := F2.out O (by rw [HNN.out, HQA.out]; exact hP.out); rwa [HQB.out] at this
  have PW := pass_way (W := W) (H := H) (G := G) (O := O) GB.out ha1 ha2 hb1 hb2 (by rw [HNN.out, HQA.out]; exact hP.out)
  rw [HQB.out, PV.out] at PW
  obtain ⟨pw1, pw2, pw3⟩ := PW
  have PW := Lib.hid pw1
  have hPb := Lib.hid pw1.le
  rw [PV.out]
  clear pw1 hP F2
  have NC := Lib.hid (fun V (hV : Below w6.heap.size w6 V) i (hi : i < n) => (show ∃ g, A5 = some ⟨g, 0, none⟩ ∧ g < w6.heap.size ∧ V.cell? ⟨g, i, none⟩ = some (.int .i64 (G i)) by
    have R := (Rd.of_own own5).ext hb6
    obtain ⟨g, e, hg, hc⟩ := R (by simp [ints, GLn.out, HNN.out]; omega)
    refine ⟨g, e, hg, ?_⟩
    have hi2 : i < fl.length := by rw [GLn.out, HNN.out]; exact hi
    rw [← GG.out i (by rw [HNN.out]; exact hi), List.getD_eq_getElem?_getD, List.getElem?_eq_getElem hi2]
    have := (hV.cell (p := ⟨g, i, none⟩) hg).trans (hc i (by simp [ints]; omega))
    simpa [ints] using this))
  clear own5 GG GLn
  go_wp2_with fail
  refine (WS.out _ (GX.out _ hb16)).mono ?_
  rintro e w7 ⟨rfl, rfl⟩
  have hz7 : w.heap.size + 2 < w6.heap.size := by have := (SX.out _ hb16).2.lt; omega
  have M0 := Blk.made w6 2 (intC (fL (fun _ => 0) n))
  have E0 := Ext.more (Ext.refl w6) (.cells (intC (fL (fun _ => 0) n)) 2)
  go_wp2_with fail
  generalize w6.alloc (.cells (intC (fL (fun _ => 0) n)) 2) = w7 at *
  have hbok : okW W H G pv ((b1 : Int), (b2 : Int)) = true := by rw [okW, IB.out, pb, HQB.out]; simpa using hPb.out
  have BG := Lib.hid hbok
  clear hmk hbok
  go_loopw [17, 61] (fun _ i wr => ∃ (k : Nat) (O : Nat → Int), k ≤ n ∧ i = .int .i64 k ∧ Hid (∀ j, j < k → O j = -1) ∧ Blk wr w6.heap.size 2 (intC (fL O n)) ∧ Below w6.heap.size w6 wr) (fun _ i _ => n - (intOf i).toNat)
  case atStart => exact ⟨0, _, Nat.zero_le _, rfl, fun j h => absurd h (Nat.not_lt_zero _), M0, E0⟩
  case round =>
    obtain ⟨k, O', hk, rfl, hO, M, E⟩ := hrel
    clear M0 E0
    by_cases hlt : k < n
    · have c0 : wr.cell? ⟨w6.heap.size, k, none⟩ = some (.int .i64 (O' k)) := by rw [M.cell k, intC_get _ _ (by rw [fL_length]; exact hlt), fL_get]
      have f0 := M.free k
      have M2 := M.store k (.int .i64 (-1))
      rw [intC_set, fL_set] at M2
      have E2 := E.setCell (p := ⟨w6.heap.size, k, none⟩) (Nat.le_refl _) (.int .i64 (-1))
      have HM2 := Lib.hid M2
      have HE2 := Lib.hid E2
      have i0 : (0 : Int) ≤ (k : Int) := by omega
      have i1 : (k : Int) < (n : Int) := by omega
      clear M M2 E2
      go_wp2_with fail
      go_roundw
      case rel =>
        refine ⟨k + 1, _, by omega, by go_num, fun j hj => ?_, HM2.out, HE2.out⟩
        by_cases e : j = k
        · subst e; rw [setF_same]
        · rw [setF_ne e]; exact hO.out j (by omega)
      case measure => simp [intOf]; omega
    · obtain rfl : n = k := by omega
      have c0 : wr.cell? ⟨w6.heap.size, qb, none⟩ = some (.int .i64 (O' qb)) := by rw [M.cell qb, intC_get _ _ (by rw [fL_length]; exact qbL), fL_get]
      have f0 := M.free qb
      have M2 := M.store qb (.int .i64 0)
      rw [intC_set, fL_set] at M2
      have e2 : fL (setF O' qb 0) n = fL (farO W (start1 ((b1 : Int), (b2 : Int))).f) n := by
        apply List.ext_getElem
        · simp [fL]
        · intro i h1 h2
          rw [fL_get, fL_get]
          have hi : i < n := by simpa [fL] using h1
          have e3 : farO W (start1 ((b1 : Int), (b2 : Int))).f = setF (farO W (fun _ => none)) (b2 * W + b1) ((0 : Nat) : Int) := farO_put (fun _ => none) hb1 0
          rw [e3, HQB.out]
          by_cases e : i = qb
          · subst e; rw [setF_same, setF_same]; rfl
          · rw [setF_ne e, setF_ne e, hO.out i hi]; rfl
      rw [e2] at M2
      have E2 := E.setCell (p := ⟨w6.heap.size, qb, none⟩) (Nat.le_refl _) (.int .i64 0)
      have z2 : (wr.setCell ⟨w6.heap.size, qb, none⟩ (.int .i64 0)).heap.size = wr.heap.size := by simp [World.setCell]
      have zl := M.lt
      have hE6 := hb16
      have I0 : WsI w6 W n (farS W H G pv ((b1 : Int), (b2 : Int)) 0) wr.heap.size 1 ((wr.setCell ⟨w6.heap.size, qb, none⟩ (.int .i64 0)).alloc (.cells #[.int .i64 qb] 2)) := by
        refine ⟨M2.more _, ?_, E2.alloc E2.size _⟩
        have := World.ownsRow_lit (e := 2) (size := 1) (wr.setCell ⟨w6.heap.size, qb, none⟩ (.int .i64 0)) #[.int .i64 qb] 1 (by rw [z2]; exact zl : w6.heap.size + 1 ≤ _) (by decide) rfl
        rw [z2] at this
        have e3 : ints ((farS W H G pv ((b1 : Int), (b2 : Int)) 0).Q.map fun q => ((plc W q : Nat) : Int)) = #[Value.int .i64 qb].toList := by
          show ints ([((b1 : Int), (b2 : Int))].map fun q => ((plc W q : Nat) : Int)) = _
          simp [ints, pb, HQB.out]
        rw [e3]
        exact this
      have BF0 : FInv W H G pv ((b1 : Int), (b2 : Int)) (farS W H G pv ((b1 : Int), (b2 : Int)) 0) 0 := farS_zero BG.out
      have FX : Hid (∀ i, FInv W H G pv ((b1 : Int), (b2 : Int)) (farS W H G pv ((b1 : Int), (b2 : Int)) i) i → i < (farS W H G pv ((b1 : Int), (b2 : Int)) i).Q.length → FarN W H G pv ((b1 : Int), (b2 : Int)) i) := fun i h hi => farN_of h hi
      have FL : Hid (∀ i, FInv W H G pv ((b1 : Int), (b2 : Int)) (farS W H G pv ((b1 : Int), (b2 : Int)) i) i → (farS W H G pv ((b1 : Int), (b2 : Int)) i).Q.length ≤ W * H ∧ i ≤ (farS W H G pv ((b1 : Int), (b2 : Int)) i).Q.length) := fun i h => ⟨farS_len h, h.le⟩
      have i2 : (0 : Int) ≤ (qb : Int) := by omega
      have i3 : (qb : Int) < (n : Int) := by omega
      have NEQ := Lib.hid (fun x y (hx : x < W) => nearI_eq (W := W) (H := H) (x := x) (y := y) hx)
      clear M hO e2 M2 E2 E
      go_wp2_with fail
      generalize (wr.setCell ⟨w6.heap.size, qb, none⟩ (.int .i64 0)).alloc (.cells #[.int .i64 qb] 2) = wz at *
      have hq1 : (farS W H G pv ((b1 : Int), (b2 : Int)) 0).Q.length = 1 := rfl
      clear c0 f0 z2 zl
      go_loopg [18, 19, 20, 21, 88] n (fun gn s18 s19 _ _ _ wr => ∃ i gq cq : Nat, Hid (gn + i = n) ∧ Hid (FInv W H G pv ((b1 : Int), (b2 : Int)) (farS W H G pv ((b1 : Int), (b2 : Int)) i) i) ∧ s19 = .int .i64 i ∧ s18 = .slice (some ⟨gq, 0, none⟩) (farS W H G pv ((b1 : Int), (b2 : Int)) i).Q.length cq ∧ WsI w6 W n (farS W H G pv ((b1 : Int), (b2 : Int)) i) gq cq wr)
      case atStart => exact ⟨0, _, 1, Nat.add_zero _, BF0, rfl, by rw [hq1], I0⟩
      case round =>
        obtain ⟨i, gq, cq, hni, hF, rfl, rfl, I⟩ := hrel
        obtain ⟨gn, hgn⟩ : ∃ gn, gn = gk := ⟨_, rfl⟩
        rw [← hgn] at hni
        have HGN := Lib.hid hgn
        clear BF0 I0 hgn hq1
        obtain ⟨fl1, fl2⟩ := FL.out i hF.out
        rw [HNN.out] at fl1
        by_cases hlt : i < (farS W H G pv ((b1 : Int), (b2 : Int)) i).Q.length
        · obtain ⟨px, py, d, T, hp1, hp2, hp3, hp4, hT0, hTj, hTI, hT4, hN⟩ := FX.out i hF.out hlt
          rw [← hT0] at I
          rw [HNN.out] at hp4
          have hpl : py * W + px < n := by rw [← HNN.out]; exact pl_lt hp1 hp2
          obtain ⟨e1, e2, e3, e4⟩ := hTI 0 (Nat.zero_le _)
          have q0 := I.head e3
          have HI := Lib.hid I
          rw [← hT0] at hlt
          rw [← hT0]
          have NR := NA.out (py * W + px) hpl
          rw [NEQ.out px py hp1] at NR
          obtain ⟨nf, hnf⟩ : ∃ nf, (arL (px : Int) (py : Int)).filter (inG W H) = nf := ⟨_, rfl⟩
          have HNF := Lib.hid hnf
          rw [hnf] at hTj hTI hT4 NR
          obtain ⟨m, hm⟩ : ∃ m, (T 0).Q.length = m := ⟨_, rfl⟩
          have HM := Lib.hid hm
          rw [hm]
          have i4 : (0 : Int) ≤ (i : Int) := by omega
          have i5 : (i : Int) < (m : Int) := by omega
          rw [HNN.out] at e2
          have hiltn : i < n := by omega
          have NR2 := Lib.hid NR
          have NFI : Hid (∀ j (hj : j < nf.length), inG W H nf[j] = true) := by
            intro j hj
            have : nf[j] ∈ (arL (px : Int) (py : Int)).filter (inG W H) := by rw [hnf]; exact List.getElem_mem hj
            exact (List.mem_filter.1 this).2
          have hnl2 : nf.length ≤ 4 := by rw [← hnf]; exact List.length_filter_le _ _
          have HT4 := Lib.hid hT4
          have HN := Lib.hid hN
          clear e1 e2 e3 e4 hm hT0 hnf I NR hT4 hN fl1 fl2
          go_wp2_with fail
          refine (NR2.out _).mono ?_
          rintro e wv ⟨ga, ca, rfl, hrow, hbv⟩
          go_wp2_with fail
          have zwr : w6.heap.size < wr.heap.size := HI.out.far.lt
          have zgq := (HI.out.que.lt gq rfl).2
          have J0 := HI.out.step hbv
          have R0 := Rd.of_own hrow
          rw [List.length_map] at hrow
          have NG0 : Hid (∀ b, ga = some ⟨b, 0, none⟩ → b ≠ gq ∧ w6.heap.size ≠ b) := by
            intro b hb
            have := (hrow.lt b (by rw [hb]; rfl)).1
            exact ⟨by omega, by omega⟩
          clear hrow q0
          go_loopg [18, 21, 88] nf.length (fun gm s18 _ kv wr => ∃ j gq cq : Nat, Hid (gm + j = nf.length) ∧ kv = .int .i64 j ∧ s18 = .slice (some ⟨gq, 0, none⟩) (T j).Q.length cq ∧ WsI w6 W n (T j) gq cq wr ∧ Rd wr ga (ints (nf.map fun p => ((plc W p : Nat) : Int))) ∧ Hid (∀ b, ga = some ⟨b, 0, none⟩ → b ≠ gq ∧ w6.heap.size ≠ b))
          case atStart => exact ⟨0, gq, cq, rfl, rfl, by rw [← HM.out], J0, R0, NG0⟩
          case round =>
            obtain ⟨j, gq, cq, hnj, rfl, rfl, I, R, NG⟩ := hrel
            clear J0 R0 NG0
            by_cases hjl : j < nf.length
            · have TS := Lib.hid (hTj j hjl)
              obtain ⟨t1, t2, t3, t4⟩ := hTI j (Nat.le_of_lt hjl)
              have hin := NFI.out j hjl
              obtain ⟨gb, rfl, hgb, hcb⟩ := R (by simp [ints]; omega)
              have c1 := hcb j (by simpa [ints] using hjl)
              have e1 : (ints (nf.map fun p => ((plc W p : Nat) : Int)))[j]'(by simpa [ints] using hjl) = .int .i64 ((plc W nf[j] : Nat) : Int) := by simp [ints]
              rw [e1] at c1
              clear e1 hcb
              obtain ⟨ng1, ng2⟩ := NG.out gb rfl
              generalize nf[j]'hjl = q at *
              obtain ⟨qx, qy⟩ := q
              obtain ⟨u, v, rfl, rfl, hu, hv, pu⟩ := inG_nat hin
              have hpl2 : v * W + u < n := by rw [← HNN.out]; exact pl_lt hu hv
              rw [pu] at c1
              have fc := I.cell hu hpl2
              obtain ⟨gN, rfl, hgN, nc⟩ := NC.out wr I.ext (v * W + u) hpl2
              have i0 : (0 : Int) ≤ (j : Int) := by omega
              have i1 : (j : Int) < (nf.length : Int) := by omega
              obtain ⟨pl, hpe⟩ : ∃ pl, v * W + u = pl := ⟨_, rfl⟩
              have HPE := Lib.hid hpe
              rw [hpe] at fc nc c1 hpl2
              have i2' : (0 : Int) ≤ (pl : Int) := by omega
              have i3' : (pl : Int) < (n : Int) := by omega
              clear hpe
              cases hf : (T j).f ((u : Int), (v : Int))
              case some e0 =>
                have FS : Hid (T (j + 1) = T j) := by rw [Hid, TS.out, BS.see, if_neg]; simp [hf]
                rw [hf] at fc
                simp only at fc
                have ne0 : ¬ ((e0 : Int) < 0) := by omega
                have HI2 := Lib.hid I
                have HR := Lib.hid R
                clear hf I R
                go_wp2_with fail
                go_roundg (gk - 1)
                case measure => have := hnj.out; omega
                case rel => exact ⟨j + 1, gq, cq, by have := hnj.out; show gk - 1 + (j + 1) = nf.length; omega, by go_num, by rw [FS.out], by rw [FS.out]; exact HI2.out, HR.out, NG⟩
              rw [hf] at fc
              simp only at fc
              by_cases hG : G pl ≤ pv
              case neg =>
                have FS : Hid (T (j + 1) = T j) := by rw [Hid, TS.out, BS.see, if_neg]; simp [okW, pu, HPE.out, hG]
                generalize G pl = gu at *
                have HI2 := Lib.hid I
                have HR := Lib.hid R
                clear hf I R
                go_wp2_with fail
                go_roundg (gk - 1)
                case measure => have := hnj.out; omega
                case rel => exact ⟨j + 1, gq, cq, by have := hnj.out; show gk - 1 + (j + 1) = nf.length; omega, by go_num, by rw [FS.out], by rw [FS.out]; exact HI2.out, HR.out, NG⟩
              have FS : Hid (T (j + 1) = ⟨(T j).Q ++ [((u : Int), (v : Int))], fun x => if x = ((u : Int), (v : Int)) then some (d + 1) else (T j).f x⟩) := by
                rw [Hid, TS.out, BS.see, if_pos]; simp [okW, pu, HPE.out, hG, hf, hin]
              have hc2 := I.head t3
              have fd := I.cell hp1 hpl
              rw [t4] at fd
              simp only at fd
              obtain ⟨pq, hpq⟩ : ∃ pq, py * W + px = pq := ⟨_, rfl⟩
              rw [hpq] at fd hc2
              have hpl3 : pq < n := by rw [← hpq]; exact hpl
              have i6 : (0 : Int) ≤ (pq : Int) := by omega
              have i7 : (pq : Int) < (n : Int) := by omega
              obtain ⟨mj, hmj⟩ : ∃ mj, (T j).Q.length = mj := ⟨_, rfl⟩
              have HMJ := Lib.hid hmj
              have fz := I.far.free pl
              have jd : IntKind.i64.wrap ((d : Int) + 1) = (d : Int) + 1 := IntWalk.i64_in _ (by omega)
              have i8 : (i : Int) < (mj : Int) := by omega
              rw [HNN.out] at t2
              have mj1 : mj ≤ 256 := by omega
              have HI2 := Lib.hid I
              have HR := Lib.hid R
              have lq := (I.que.lt gq rfl)
              have lf := I.far.lt
              rw [hmj]
              clear hf I R hpq hmj t1 t2 t3 t4
              generalize G pl = gu at *
              go_wp2_with fail
              refine wp_region_quiet_tail 14 (by kernel_rfl) (by kernel_rfl) ?_
              simp only [List.take_succ_cons, List.take_zero, List.drop_succ_cons, List.drop_zero]
              repeat (go_big_quiet_step (fail))
              refine wpQuiet_nil ?_
              intro _ hw'
              obtain ⟨nq2, hw''⟩ := hw'
              subst hw''
              have ID := HI2.out.step (Ext.drawN (Ext.refl _) nq2)
              have hQ0 := ID.que
              rw [HMJ.out] at hQ0
              have SC := (Chg.refl (fun b => b = w6.heap.size) (wr.drewN nq2)).store (p := ⟨w6.heap.size, pl, none⟩) rfl (.int .i64 ((d : Int) + 1))
              have hQ1 := SC.own hQ0 (fun z hz => by have := (hQ0.lt z hz).1; omega)
              have c9 : ((wr.drewN nq2).setCell ⟨w6.heap.size, pl, none⟩ (.int .i64 ((d : Int) + 1))).cell? ⟨gb, j, none⟩ = some (.int .i64 (pl : Int)) := (SC.cell (p := ⟨gb, j, none⟩) hgb (fun e => ng2 e.symm)).trans c1
              have z9 : ((wr.drewN nq2).setCell ⟨w6.heap.size, pl, none⟩ (.int .i64 ((d : Int) + 1))).heap.size = wr.heap.size := by simp [World.setCell]
              clear hQ0 fd nc c1 hc2 ID
              go_upto_region 28 with fail
              obtain ⟨V9, hV9⟩ : ∃ V9, (wr.drewN nq2).setCell ⟨w6.heap.size, pl, none⟩ (.int .i64 ((d : Int) + 1)) = V9 := ⟨_, rfl⟩
              have HV9 := Lib.hid hV9
              rw [hV9] at hQ1 c9 z9 SC
              simp only [hV9]
              have HZ9 := Lib.hid z9
              clear z9 hV9 fc fz
              go_wp2_with (at_builtin; refine wpList_app intT (by rfl) _ _ (by rfl) (w6.heap.size + 1) (.slice (some ⟨gq, 0, none⟩) mj cq) mj (ints ((T j).Q.map fun q => ((plc W q : Nat) : Int))) (by rfl) (hQ1.alloc _) V9.heap.size #[.int .i64 (pl : Int)] (by rfl) (heap_alloc_new _ _) rfl (by simp [Value.oneCell']) (by omega) (by have := HZ9.out; simp; omega) ?_; intro g3 cap3 w15 hown3 hgrow3 hat3 hlt3)
              have HP : Hid (WsI w6 W n (T (j + 1)) g3 cap3 w15) := by
                rw [FS.out]
                refine (HI2.out.step (Ext.drawN (Ext.refl _) nq2)).push (d := d + 1) (V := V9) hu (by rw [HPE.out]; exact HV9.out.symm) ?_ hgrow3
                rw [HMJ.out, HPE.out]
                exact hown3
              have EL : Hid ((T (j + 1)).Q.length = mj + 1) := by rw [Hid, FS.out, List.length_append, HMJ.out]; rfl
              have R2 : Rd w15 (some ⟨gb, 0, none⟩) (ints (nf.map fun p => ((plc W p : Nat) : Int))) := by
                intro hpos
                obtain ⟨g', e', hg', hc'⟩ := HR.out hpos
                have eg : g' = gb := by simpa using e'.symm
                rw [eg] at hg'
                simp only [eg] at hc'
                have zz9 : V9.heap.size = wr.heap.size := HZ9.out
                refine ⟨gb, rfl, Nat.lt_of_lt_of_le (by have := HZ9.out; simp; omega) hgrow3.size, fun k hk => ?_⟩
                have s1 := SC.cell (p := ⟨gb, k, none⟩) hgb (fun e => ng2 e.symm)
                have s2 := (Ext.more (Ext.refl V9) (.cells #[.int .i64 (pl : Int)] 2)).cell (p := ⟨gb, k, none⟩) (by have := HZ9.out; show gb < V9.heap.size; omega)
                have s3 := hgrow3.cell_far ⟨gb, k, none⟩ (by have := HZ9.out; simp; omega) (by simp [Value.ownBlock]; omega)
                exact s3.trans (s2.trans (s1.trans (hc' k hk)))
              have NG2 : Hid (∀ b, some (⟨gb, 0, none⟩ : Addr) = some ⟨b, 0, none⟩ → b ≠ g3 ∧ w6.heap.size ≠ b) := by
                intro b hb
                simp at hb
                subst hb
                refine ⟨?_, ng2⟩
                rintro rfl
                simp [Value.ownBlock] at hat3
                rcases hat3 with h | h
                · omega
                · have := HZ9.out; omega
              clear hown3 hgrow3 hat3 hQ1 c9 SC
              go_wp2_with fail
              go_roundg (gk - 1)
              case measure => have := hnj.out; omega
              case rel => exact ⟨j + 1, g3, cap3, by have := hnj.out; show gk - 1 + (j + 1) = nf.length; omega, by go_num, by rw [EL.out], HP.out, R2, NG2⟩
            · obtain rfl : j = nf.length := by have := hnj.out; omega
              have HI2 := Lib.hid I
              clear I R
              go_wp2_with fail
              go_roundg (gn - 1)
              case measure => have := hni.out; have := HGN.out; omega
              case rel => exact ⟨i + 1, gq, cq, by have := hni.out; show gn - 1 + (i + 1) = n; omega, HN.out, by go_num, by rw [HT4.out], by rw [← HT4.out]; exact HI2.out⟩
        · obtain ⟨w10, rfl⟩ : ∃ w10, w10 = wr := ⟨_, rfl⟩
          have fe := farS_end hF.out hlt
          have FR := far_of fe.2 BG.out
          have RE := FR.reach IA.out IB.out (by rw [pa, pb, HQB.out]; exact PW.out)
          have M10 : Blk w10 w6.heap.size 2 (intC (fL (farO W (farF W H G pv ((b1 : Int), (b2 : Int)))) n)) := by rw [← fe.1]; exact I.far
          have E10 := I.ext
          change Far W H G pv ((b1 : Int), (b2 : Int)) (farF W H G pv ((b1 : Int), (b2 : Int))) at FR
          change ∃ d, farF W H G pv ((b1 : Int), (b2 : Int)) ((a1 : Int), (a2 : Int)) = some d at RE
          obtain ⟨m, hm⟩ : ∃ m, (farS W H G pv ((b1 : Int), (b2 : Int)) i).Q.length = m := ⟨_, rfl⟩
          rw [hm]
          have i4 : ¬ ((i : Int) < (m : Int)) := by omega
          clear fe FX FL I hF hlt fl1 fl2 hni HGN hm NA NEQ HE LS WS NC
          generalize farF W H G pv ((b1 : Int), (b2 : Int)) = F at *
          obtain ⟨d0, hd0⟩ := RE
          have d0l := (FR.low _ _ hd0).2.2
          rw [HNN.out] at d0l
          have F4 : Hid (wv = ByteArray.mk ((dirs F d0 ((a1 : Int), (a2 : Int))).map letB).toArray) := by have := F3.out; rwa [hd0, Option.getD_some] at this
          clear F3
          have HFR := Lib.hid FR
          have HD0 := Lib.hid hd0
          have HB := Lib.hid (hb16.trans (E10.mono (by have := hb16.size; omega)))
          have ZA := dirs_len F d0 ((a1 : Int), (a2 : Int))
          obtain ⟨TL, hTL⟩ : ∃ TL, (dirs F d0 ((a1 : Int), (a2 : Int))).map letB = TL := ⟨_, rfl⟩
          rw [hTL] at F4
          have HTL : Hid ([] ++ (dirs F d0 ((a1 : Int), (a2 : Int))).map letB = TL) := hTL
          have hlT : TL.length = d0 := by rw [← hTL, List.length_map]; exact ZA
          have zm := M10.lt
          have BX := Ext.more (Ext.refl w10) (.cells (spC stL) 28)
          have k1 := (SX.out _ (HB.out.trans (BX.mono (by have := HB.out.size; omega)))).1.cell 0
          have k2 := (SX.out _ (HB.out.trans (BX.mono (by have := HB.out.size; omega)))).1.cell 1
          have S10 := (Blk.made w10 28 (spC stL)).spots
          simp at k1 k2
          clear FR hd0 hTL ZA
          have I3 : Below w10.heap.size w10 ((w10.alloc (.cells (spC stL) 28)).alloc (.cells #[.int .i64 a1, .int .i64 a2] 28)) := Ext.more (Ext.more (Ext.refl _) _) _
          have I4 : Blk ((w10.alloc (.cells (spC stL) 28)).alloc (.cells #[.int .i64 a1, .int .i64 a2] 28)) (w10.heap.size + 1) 28 #[.int .i64 a1, .int .i64 a2] := by
            have := Blk.made (w10.alloc (.cells (spC stL) 28)) 28 #[.int .i64 a1, .int .i64 a2]
            simpa using this
          have S11 := S10.ext (Ext.more (Ext.refl _) (.cells #[.int .i64 a1, .int .i64 a2] 28))
          have zb : (w10.alloc (.cells (spC stL) 28)).heap.size = w10.heap.size + 1 := by simp
          go_wp2_with (go_at_call 53; refine (lettersS_any _).mono ?_; rintro e w11 ⟨rfl, rfl⟩)
          obtain ⟨pb', hpb'⟩ : ∃ pb', w10.heap.size + 1 = pb' := ⟨_, rfl⟩
          obtain ⟨ss, hss⟩ : ∃ ss, w10.heap.size = ss := ⟨_, rfl⟩
          have M11 : Blk ((w10.alloc (.cells (spC stL) 28)).alloc (.cells #[.int .i64 a1, .int .i64 a2] 28)) w6.heap.size 2 (intC (fL (farO W F) n)) := (M10.more _).more _
          have E11 : Below w6.heap.size w6 ((w10.alloc (.cells (spC stL) 28)).alloc (.cells #[.int .i64 a1, .int .i64 a2] 28)) := E10.trans (I3.mono (by have := E10.size; omega))
          generalize (w10.alloc (.cells (spC stL) 28)).alloc (.cells #[.int .i64 a1, .int .i64 a2] 28) = wy at *
          rw [hss] at S11 S10 zm hpb' I3
          rw [hss, hpb'] at I4
          simp only [hss, hpb']
          have zpb : ss < pb' := by omega
          clear k1 k2 zb M10 S10 BX
          have HFC := Lib.hid (fun V (hV : Below pb' wy V) (x y : Nat) (hx : x < W) (hy : y * W + x < n) e (he : F ((x : Int), (y : Int)) = some e) => (show V.cell? ⟨w6.heap.size, y * W + x, none⟩ = some (.int .i64 (e : Int)) by
            rw [(M11.under hV (by omega)).cell, intC_get _ _ (by rw [fL_length]; exact hy), fL_get, farO_at _ hx, he]))
          have HFN := Lib.hid (fun V (hV : Below pb' wy V) (x y : Nat) (hx : x < W) (hy : y * W + x < n) (he : F ((x : Int), (y : Int)) = none) => (show V.cell? ⟨w6.heap.size, y * W + x, none⟩ = some (.int .i64 (-1)) by
            rw [(M11.under hV (by omega)).cell, intC_get _ _ (by rw [fL_length]; exact hy), fL_get, farO_at _ hx, he]))
          have HST := Lib.hid (fun V (hV : Below pb' wy V) k (hk : k < 4) => (show V.cell? ⟨ss, k * 2, none⟩ = some (.int .i64 (stL[k]'hk).1) ∧ V.cell? ⟨ss, k * 2 + 1, none⟩ = some (.int .i64 (stL[k]'hk).2) from
            ⟨(hV.cell (p := ⟨ss, k * 2, none⟩) zpb).trans (S11.2 k hk).1, (hV.cell (p := ⟨ss, k * 2 + 1, none⟩) zpb).trans (S11.2 k hk).2⟩))
          have HPL := Lib.hid (fun V (hV : Below pb' wy V) (x y : Int) => PS.out x y V (GX.out V ((hb16.trans (E11.mono (by have := hb16.size; omega))).trans (hV.mono (by have := hb16.size; have := E11.size; omega)))))
          have HBW := Lib.hid (fun V (hV : Below pb' wy V) => (show Below w.heap.size w V from (B1.trans ((hb16.trans (E11.mono (by have := hb16.size; omega))).mono B1.size)).trans (hV.mono (by omega))))
          clear S11 M11 PA PB E11 E10
          go_loopg [24, 26, 27, 28, 29, 150] d0 (fun gn s24 _ _ _ _ _ wx => ∃ (x y : Nat) (l : List UInt8), s24 = .string ⟨l.toArray⟩ ∧ Hid (F ((x : Int), (y : Int)) = some gn) ∧ Blk wx pb' 28 #[.int .i64 x, .int .i64 y] ∧ Below pb' wy wx ∧ Hid (l ++ (dirs F gn ((x : Int), (y : Int))).map letB = TL))
          case atStart => exact ⟨a1, a2, [], rfl, HD0, I4, Below.refl _ _, HTL⟩
          case round =>
            obtain ⟨x, y, l, rfl, hd, hP, hbx, hl⟩ := hrel
            obtain ⟨wo, rfl⟩ : ∃ wo, wo = wr := ⟨_, rfl⟩
            clear I3 I4 HTL HD0
            obtain ⟨gko, hgko⟩ : ∃ gko, gko = gk := ⟨_, rfl⟩
            have HGK := Lib.hid hgko
            rw [← hgko] at hd hl
            clear hgko
            have hin := (HFR.out.low _ _ hd.out).1
            have hdl := (HFR.out.low _ _ hd.out).2.2
            rw [HNN.out] at hdl
            have hbx2 := inG_iff.1 hin
            simp only at hbx2
            obtain ⟨⟨_, hx1⟩, _, hy1⟩ := hbx2
            have hxl : x < W := by omega
            have hyl : y < H := by omega
            have hpp : y * W + x < n := by rw [← HNN.out]; exact pl_lt hxl hyl
            have fc := HFC.out _ hbx x y hxl hpp _ hd.out
            have em : (y : Int) * (W : Int) + (x : Int) = ((y * W + x : Nat) : Int) := by simp
            have mw : (y : Int) * (W : Int) = ((y * W : Nat) : Int) := by simp
            have mw1 : IntKind.i64.wrap ((y : Int) * (W : Int)) = (y : Int) * (W : Int) := by rw [mw]; exact IntWalk.i64_in _ (by omega)
            have mw2 : IntKind.i64.wrap ((y : Int) * (W : Int) + (x : Int)) = (y : Int) * (W : Int) + (x : Int) := by rw [em]; exact IntWalk.i64_in _ (by omega)
            have b0 : (0 : Int) ≤ (y : Int) * (W : Int) + (x : Int) := by rw [em]; omega
            have b1' : (y : Int) * (W : Int) + (x : Int) < (n : Int) := by rw [em]; omega
            have fc2 : wo.cell? ⟨w6.heap.size, ((y : Int) * (W : Int) + (x : Int)).toNat, none⟩ = some (.int .i64 (gko : Int)) := by rw [em, Int.toNat_natCast]; exact fc
            have p0 := hP.cell 0
            have p1 := hP.cell 1
            simp at p0 p1
            clear em mw hin
            cases gko with
            | zero =>
              have HW := Lib.hid (HBW.out _ hbx)
              go_wp2_with fail
              go_ret2
              have e1 := hl.out
              rw [dirs, List.map_nil, List.append_nil] at e1
              exact ⟨by rw [F4.out, ← e1]; rfl, HW.out⟩
            | succ d =>
              have EXK := Lib.hid (HFR.out.back _ _ hd.out)
              have DIR := Lib.hid (fun (k : Nat) (hk : k < 4) (h : F (stepP ((x : Int), (y : Int)) k) = some d) (hn : ∀ j : Nat, j < k → F (stepP ((x : Int), (y : Int)) j) ≠ some d) => dirV_hit (f := F) (p := ((x : Int), (y : Int))) (d := d) hk h hn)
              have LOW := Lib.hid (fun (p : Int × Int) (e : Nat) (h : F p = some e) => inG_iff.1 (HFR.out.low p e h).1)
              have jd : IntKind.i64.wrap ((d : Int) + 1 - 1) = (d : Int) := by rw [show (d : Int) + 1 - 1 = (d : Int) by omega]; exact IntWalk.i64_in _ (by omega)
              have gd : (0 : Int) < ((d + 1 : Nat) : Int) := by omega
              go_wp2_with fail
              go_loopg [24, 26, 27, 28, 29, 150] 4 (fun n s24 _ _ _ _ kv wx => ∃ k : Nat, Hid (n + k = 4) ∧ kv = .int .i64 k ∧ s24 = .string ⟨l.toArray⟩ ∧ Hid (∀ j : Nat, j < k → F (stepP ((x : Int), (y : Int)) j) ≠ some d) ∧ Blk wx pb' 28 #[.int .i64 x, .int .i64 y] ∧ Below pb' wy wx)
              case atStart => exact ⟨0, rfl, rfl, rfl, fun j hj => absurd hj (by omega), hP, hbx⟩
              case round =>
                obtain ⟨k, hnk, rfl, rfl, hno, P2, hb3⟩ := hrel
                clear fc fc2 p0 p1 hP hbx
                by_cases hkl : k < 4
                · have i0 : (0 : Int) ≤ (k : Int) := by omega
                  have i1 : (k : Int) < 4 := by omega
                  obtain ⟨stp, s1, s2, s3, s4⟩ := stL_step ((x : Int), (y : Int)) k hkl
                  obtain ⟨c1, c2⟩ := HST.out _ hb3 k hkl
                  simp only at stp
                  generalize (stL[k]'hkl) = st at *
                  obtain ⟨sx, sy⟩ := st
                  simp only at stp s1 s2 s3 s4 c1 c2
                  have p2 := P2.cell 0
                  have p3 := P2.cell 1
                  simp at p2 p3
                  have w1' : IntKind.i64.wrap ((x : Int) + sx) = (x : Int) + sx := IntWalk.i64_in _ (by omega)
                  have w2' : IntKind.i64.wrap ((y : Int) + sy) = (y : Int) + sy := IntWalk.i64_in _ (by omega)
                  have STP := Lib.hid stp
                  have lp := P2.lt
                  have lss : ss < wr.heap.size := by omega
                  have SS := Lib.hid (fun V (hb : Below wr.heap.size wr V) => (show Below wr.heap.size wr V ∧ V.cell? ⟨pb', 0, none⟩ = some (.int .i64 x) ∧ V.cell? ⟨pb', 1, none⟩ = some (.int .i64 y) ∧ V.cell? ⟨ss, k * 2, none⟩ = some (.int .i64 sx) ∧ V.cell? ⟨ss, k * 2 + 1, none⟩ = some (.int .i64 sy) from
                    ⟨hb, (hb.cell (p := ⟨pb', 0, none⟩) lp).trans p2, (hb.cell (p := ⟨pb', 1, none⟩) lp).trans p3, (hb.cell (p := ⟨ss, k * 2, none⟩) lss).trans c1, (hb.cell (p := ⟨ss, k * 2 + 1, none⟩) lss).trans c2⟩))
                  have E1 := Ext.draw (Ext.refl wr)
                  have E2 := Ext.more (Ext.draw (Ext.refl wr)) (.cells #[.int .i64 0, .int .i64 0] 28)
                  clear stp
                  go_wp2_with fail
                  go_region_held3 (fun V => Below wr.heap.size wr V ∧ V.cell? ⟨pb', 0, none⟩ = some (.int .i64 x) ∧ V.cell? ⟨pb', 1, none⟩ = some (.int .i64 y) ∧ V.cell? ⟨ss, k * 2, none⟩ = some (.int .i64 sx) ∧ V.cell? ⟨ss, k * 2 + 1, none⟩ = some (.int .i64 sy))
                    (first | exact SS.out _ E1 | exact SS.out _ (Ext.draw (Ext.refl _)) | exact SS.out _ (Ext.more (Ext.draw (Ext.refl _)) _) | go_keep)
                    (first
                      | (go_at_call 53; skip))
                  obtain ⟨q1, hq1⟩ : ∃ q1, (x : Int) + sx = q1 := ⟨_, rfl⟩
                  obtain ⟨q2, hq2⟩ : ∃ q2, (y : Int) + sy = q2 := ⟨_, rfl⟩
                  have HQ : Hid (stepP ((x : Int), (y : Int)) (k : Int) = (q1, q2)) := by rw [Hid, STP.out, hq1, hq2]
                  simp only [hq1, hq2]
                  have XB := Ext.draw (Ext.more (Ext.refl wr) (.cells #[.int .i64 q1, .int .i64 q2] 28))
                  have B12 : Blk (wr.alloc (.cells #[.int .i64 q1, .int .i64 q2] 28)).drew wr.heap.size 28 #[.int .i64 q1, .int .i64 q2] := Blk.made wr _ _
                  obtain ⟨nb, hnb⟩ : ∃ nb, wr.heap.size = nb := ⟨_, rfl⟩
                  rw [hnb] at B12
                  simp only [hnb]
                  generalize (wr.alloc (.cells #[.int .i64 q1, .int .i64 q2] 28)).drew = w12 at *
                  have HNB := Lib.hid hnb
                  have hb4 : Below pb' wy w12 := hb3.trans (XB.mono (by omega))
                  have P4 := P2.under XB lp
                  have p4 := P4.cell 0
                  have p5 := P4.cell 1
                  have k4 := B12.cell 0
                  have k5 := B12.cell 1
                  simp at p4 p5 k4 k5
                  have PLQ := Lib.hid (HPL.out w12 hb4 q1 q2)
                  clear hq1 hq2 hnb w1' w2' c1 c2 SS E1 E2 p2 p3 s1 s2 s3 s4
                  go_wp2_with fail
                  refine PLQ.out.mono ?_
                  rintro e w13 ⟨rfl, hb13'⟩
                  have hb5 : Below pb' wy w13 := hb4.trans (hb13'.mono (by have := P4.lt; omega))
                  have P5 := P4.under hb13' P4.lt
                  have B13 := B12.under hb13' B12.lt
                  have p6 := P5.cell 0
                  have p7 := P5.cell 1
                  have k6 := B13.cell 0
                  have k7 := B13.cell 1
                  simp at p6 p7 k6 k7
                  have HB5 := Lib.hid hb5
                  have HP5 := Lib.hid P5
                  have HX5 := Lib.hid (Ext.then_ XB hb13')
                  clear p4 p5 k4 k5 P4 B12 hb13' PLQ
                  cases hin : inG W H (q1, q2)
                  · have FNo : Hid (F (q1, q2) ≠ some d) := fun h => by
                      have := LOW.out _ _ h
                      have h2 : inG W H (q1, q2) = true := inG_iff.2 this
                      rw [hin] at h2; cases h2
                    clear hin
                    go_wp2_with fail
                    go_quiet (fail)
                    go_wp2_with fail
                    go_roundg (gk - 1)
                    case measure => have := hnk.out; omega
                    case rel => exact ⟨k + 1, by have := hnk.out; show gk - 1 + (k + 1) = 4; omega, by go_num, rfl, fun j hj => by
                      by_cases e : j = k
                      · subst e; rw [HQ.out]; exact FNo.out
                      · exact hno.out j (by omega), HP5.out.drewN _, below_drewN HB5.out _⟩
                  obtain ⟨u, v, rfl, rfl, hu, hv, pu⟩ := inG_nat hin
                  have hplt : v * W + u < n := by rw [← HNN.out]; exact pl_lt hu hv
                  have eP : plcO W H (u : Int) (v : Int) = ((v * W + u : Nat) : Int) := by rw [plcO, if_pos hin, pu]
                  simp only [eP]
                  have FN := Lib.hid (fun hf => HFN.out w13 hb5 u v hu hplt hf)
                  have FC := Lib.hid (fun e hf => HFC.out w13 hb5 u v hu hplt e hf)
                  have fd := HFC.out w13 hb5 x y hxl hpp (d + 1) hd.out
                  have em : (y : Int) * (W : Int) + (x : Int) = ((y * W + x : Nat) : Int) := by simp
                  have fd2 : w13.cell? ⟨w6.heap.size, ((y : Int) * (W : Int) + (x : Int)).toNat, none⟩ = some (.int .i64 ((d + 1 : Nat) : Int)) := by rw [em, Int.toNat_natCast]; exact fd
                  obtain ⟨pl, hpl⟩ : ∃ pl, v * W + u = pl := ⟨_, rfl⟩
                  simp only [hpl]
                  rw [hpl] at FN FC hplt
                  have g0' : (0 : Int) ≤ (pl : Int) := by omega
                  have g1' : (pl : Int) < (n : Int) := by omega
                  clear hpl eP hin fd em hb5
                  cases hf : F ((u : Int), (v : Int))
                  · have fc := FN.out hf
                    clear FN FC
                    have HF := Lib.hid hf
                    clear hf
                    go_wp2_with fail
                    go_quiet (fail)
                    go_wp2_with fail
                    go_roundg (gk - 1)
                    case measure => have := hnk.out; omega
                    case rel => exact ⟨k + 1, by have := hnk.out; show gk - 1 + (k + 1) = 4; omega, by go_num, rfl, fun j hj => by
                      by_cases e : j = k
                      · subst e; rw [HQ.out, HF.out]; simp
                      · exact hno.out j (by omega), HP5.out.drewN _, below_drewN HB5.out _⟩
                  rename_i e0
                  have fc := FC.out e0 hf
                  have HF := Lib.hid hf
                  clear hf FN FC
                  have ge0 : (0 : Int) ≤ (e0 : Int) := by omega
                  have jd2 : IntKind.i64.wrap (d : Int) = (d : Int) := IntWalk.i64_in _ (by omega)
                  by_cases he : e0 = d
                  case neg =>
                    have hne3 : ((e0 : Int) == (d : Int)) = false := by simp; omega
                    go_wp2_with fail
                    go_quiet (fail)
                    go_wp2_with fail
                    go_roundg (gk - 1)
                    case measure => have := hnk.out; omega
                    case rel => exact ⟨k + 1, by have := hnk.out; show gk - 1 + (k + 1) = 4; omega, by go_num, rfl, fun j hj => by
                      by_cases e : j = k
                      · subst e; rw [HQ.out, HF.out]; simpa using he
                      · exact hno.out j (by omega), HP5.out.drewN _, below_drewN HB5.out _⟩
                  subst he
                  have hne3 : ((e0 : Int) == (e0 : Int)) = true := by simp
                  have DK := Lib.hid (DIR.out k hkl (by rw [HQ.out]; exact HF.out) hno.out)
                  have HLX : Hid (∀ kb : UInt8, kb = letB k → (l ++ [kb]) ++ (dirs F e0 ((u : Int), (v : Int))).map letB = TL) := by
                    intro kb hkb
                    rw [← hl.out, dirs, DK.out, HQ.out, List.map_cons, hkb, List.append_assoc]
                    rfl
                  have hll : l.length ≤ 1000 := by have := congrArg List.length hl.out; simp at this; omega
                  have kk : k = 0 ∨ k = 1 ∨ k = 2 ∨ k = 3 := by omega
                  have zl : (⟨l.toArray⟩ : ByteArray).size = l.length := rfl
                  have f6 := HP5.out.free 0
                  have f7 := HP5.out.free 1
                  have P6 := Lib.hid (fun nq => ((HP5.out.drewN nq).store 0 (.int .i64 u)).store 1 (.int .i64 v))
                  have B6 := Lib.hid (fun nq => ((below_drewN HB5.out nq).setCell (p := ⟨pb', 0, none⟩) (Nat.le_refl _) (.int .i64 u)).setCell (p := ⟨pb', 1, none⟩) (Nat.le_refl _) (.int .i64 v))
                  rcases kk with rfl | rfl | rfl | rfl
                  · have e1 : (⟨l.toArray⟩ : ByteArray) ++ (⟨#[100, 108, 114, 117]⟩ : ByteArray).extract 0 1 = ⟨(l ++ [100]).toArray⟩ := by
                      rw [show (⟨#[100, 108, 114, 117]⟩ : ByteArray).extract 0 1 = ⟨[(100 : UInt8)].toArray⟩ by decide]
                      exact bytes_app _ _
                    have HE1 := Lib.hid e1
                    have HL3 := Lib.hid (HLX.out 100 rfl)
                    clear e1 HLX
                    go_wp2_with fail
                    go_quiet (fail)
                    go_wp2_with fail
                    go_roundg e0
                    case measure => have := HGK.out; omega
                    case rel => exact ⟨u, v, l ++ [100], by rw [HE1.out], HF.out, by simpa using P6.out _, B6.out _, HL3.out⟩
                  · have e1 : (⟨l.toArray⟩ : ByteArray) ++ (⟨#[100, 108, 114, 117]⟩ : ByteArray).extract 1 2 = ⟨(l ++ [108]).toArray⟩ := by
                      rw [show (⟨#[100, 108, 114, 117]⟩ : ByteArray).extract 1 2 = ⟨[(108 : UInt8)].toArray⟩ by decide]
                      exact bytes_app _ _
                    have HE1 := Lib.hid e1
                    have HL3 := Lib.hid (HLX.out 108 rfl)
                    clear e1 HLX
                    go_wp2_with fail
                    go_quiet (fail)
                    go_wp2_with fail
                    go_roundg e0
                    case measure => have := HGK.out; omega
                    case rel => exact ⟨u, v, l ++ [108], by rw [HE1.out], HF.out, by simpa using P6.out _, B6.out _, HL3.out⟩
                  · have e1 : (⟨l.toArray⟩ : ByteArray) ++ (⟨#[100, 108, 114, 117]⟩ : ByteArray).extract 2 3 = ⟨(l ++ [114]).toArray⟩ := by
                      rw [show (⟨#[100, 108, 114, 117]⟩ : ByteArray).extract 2 3 = ⟨[(114 : UInt8)].toArray⟩ by decide]
                      exact bytes_app _ _
                    have HE1 := Lib.hid e1
                    have HL3 := Lib.hid (HLX.out 114 rfl)
                    clear e1 HLX
                    go_wp2_with fail
                    go_quiet (fail)
                    go_wp2_with fail
                    go_roundg e0
                    case measure => have := HGK.out; omega
                    case rel => exact ⟨u, v, l ++ [114], by rw [HE1.out], HF.out, by simpa using P6.out _, B6.out _, HL3.out⟩
                  · have e1 : (⟨l.toArray⟩ : ByteArray) ++ (⟨#[100, 108, 114, 117]⟩ : ByteArray).extract 3 4 = ⟨(l ++ [117]).toArray⟩ := by
                      rw [show (⟨#[100, 108, 114, 117]⟩ : ByteArray).extract 3 4 = ⟨[(117 : UInt8)].toArray⟩ by decide]
                      exact bytes_app _ _
                    have HE1 := Lib.hid e1
                    have HL3 := Lib.hid (HLX.out 117 rfl)
                    clear e1 HLX
                    go_wp2_with fail
                    go_quiet (fail)
                    go_wp2_with fail
                    go_roundg e0
                    case measure => have := HGK.out; omega
                    case rel => exact ⟨u, v, l ++ [117], by rw [HE1.out], HF.out, by simpa using P6.out _, B6.out _, HL3.out⟩
                · obtain rfl : k = 4 := by have := hnk.out; omega
                  obtain ⟨k, hk, hfk⟩ := EXK.out
                  exact absurd hfk (hno.out k hk)
end Go.Proofs.Ytajepoopicoodaa
