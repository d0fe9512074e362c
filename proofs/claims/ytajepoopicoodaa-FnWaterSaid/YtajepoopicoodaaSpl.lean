/- The least height to the edge at a spot: on both sides. -/
import Derived.Test.YtajepoopicoodaaPbt
namespace Go.Proofs.Ytajepoopicoodaa
open Go.RowKit

set_option maxRecDepth 100000 in
set_option maxHeartbeats 2000000 in
theorem spillAt_any (A : Option Addr) (c : Nat) (rows : List (List Int)) (ax ay : Int) (w : World) (h : MatRd w A rows) (hn : rows.length ≤ 1000000000) (hr : ∀ i (h : i < rows.length), rows[i].length ≤ 1000000000) :
    Calls Try.prog 27 #[.agg #[.slice A rows.length c], .agg #[.int .i64 ax, .int .i64 ay]] w fun e w' => e = .returned (.tuple #[.int .i64 (spillV rows ax ay), .bool (inR rows ax ay)]) ∧ Below w.heap.size w w' := by
  obtain ⟨wB, hwB⟩ : ∃ wB, (w.alloc (.cells #[.slice A rows.length c] 31)).alloc (.cells #[.int .i64 ax, .int .i64 ay] 28) = wB := ⟨_, rfl⟩
  have B1 : Below w.heap.size w wB := by rw [← hwB]; exact Ext.more (Ext.more (Ext.refl _) _) _
  have G1 : GreyAt wB w.heap.size A c rows := by rw [← hwB]; exact (grey_box h).ext (Ext.more (Ext.refl _) _)
  have S0 : Blk wB (w.heap.size + 1) 28 #[.int .i64 ax, .int .i64 ay] := by
    have := Blk.made (w.alloc (.cells #[.slice A rows.length c] 31)) 28 #[.int .i64 ax, .int .i64 ay]
    rw [hwB] at this; simpa using this
  have VG := Lib.hid (fun V (hV : Below w.heap.size w V) => validGrey_any A c rows V (h.ext hV) hn hr)
  have GX := Lib.hid (fun V (hb : Below wB.heap.size wB V) => G1.ext hb)
  have SX := Lib.hid (fun V (hb : Below wB.heap.size wB V) => S0.under hb S0.lt)
  have c0 := G1.cell
  obtain ⟨W, hW⟩ : ∃ W, tabW rows = W := ⟨_, rfl⟩
  obtain ⟨H, hH⟩ : ∃ H, rows.length = H := ⟨_, rfl⟩
  rw [hH] at c0 VG hwB ⊢
  cases hg : greyOk rows
  · have F : Hid (inR rows ax ay = false) := by simp [Hid, inR, hg]
    have F2 : Hid (spillV rows ax ay = 0) := by rw [Hid, spillV, F.out]; rfl
    rw [hg] at VG
    rw [F.out, F2.out]
    clear hg hn hr h hW hH G1
    go_enter Try.func27, Try.ntmps27
    go_wp2_with fail
    try simp only [hwB]
    refine (VG.out _ B1).mono ?_
    rintro e w2 ⟨rfl, hb⟩
    go_wp2_with fail
    go_ret2
    exact ⟨rfl, Ext.then_ B1 hb⟩
  rw [hg] at VG
  obtain ⟨s1, s2, s3, s4⟩ := tab_sizes hg
  have HS := Lib.hid (fun V (hV : GreyAt V w.heap.size A c rows) (x y : Int) => g_has hV hW hH (by omega) (by omega) (by omega) x y)
  have HA := Lib.hid (fun V (hV : GreyAt V w.heap.size A c rows) => HS.out V hV ax ay)
  cases ha : inG W H (ax, ay)
  · have F : Hid (inR rows ax ay = false) := by simp [Hid, inR, hW, hH, ha]
    have F2 : Hid (spillV rows ax ay = 0) := by rw [Hid, spillV, F.out]; rfl
    rw [ha] at HA
    rw [F.out, F2.out]
    clear hg hn hr h hW hH G1 s1 s2 s3 s4 ha HS
    go_enter Try.func27, Try.ntmps27
    go_wp2_with fail
    try simp only [hwB]
    refine (VG.out _ B1).mono ?_
    rintro e w2 ⟨rfl, hb⟩
    have k0 := (SX.out _ hb).cell 0
    have k1 := (SX.out _ hb).cell 1
    simp at k0 k1
    go_wp2_with fail
    refine (HA.out _ (GX.out _ hb)).mono ?_
    rintro e w3 ⟨rfl, hb3⟩
    have hb13 := Ext.then_ hb hb3
    clear k0 k1
    go_wp2_with fail
    go_ret2
    exact ⟨rfl, Ext.then_ B1 hb13⟩
  obtain ⟨a1, a2, rfl, rfl, ha1, ha2, pa⟩ := inG_nat ha
  have F : Hid (inR rows a1 a2 = true) := by simp [Hid, inR, hW, hH, ha, hg]
  have F2 : Hid (∀ O, IsPass W (W * H) (gF rows W) (fun i => edgeB W H i = true) O → spillV rows a1 a2 = O (a2 * W + a1)) := by
    intro O hO
    rw [spillV, F.out, if_pos rfl, spillF, pR, hW, hH, pa]
    exact passL_get hO (pl_lt ha1 ha2)
  have HE := Lib.hid (fun V (hV : GreyAt V w.heap.size A c rows) => spills_any w.heap.size A c rows W H V hV hg hW hH)
  rw [ha] at HA
  rw [F.out]
  generalize spillV rows a1 a2 = pv at *
  clear hg hn hr h hW hH G1 s1 s2 s3 s4 ha HS
  go_enter Try.func27, Try.ntmps27
  go_wp2_with fail
  try simp only [hwB]
  refine (VG.out _ B1).mono ?_
  rintro e w2 ⟨rfl, hb⟩
  have k0 := (SX.out _ hb).cell 0
  have k1 := (SX.out _ hb).cell 1
  simp at k0 k1
  go_wp2_with fail
  refine (HA.out _ (GX.out _ hb)).mono ?_
  rintro e w3 ⟨rfl, hb3⟩
  have hb13 := Ext.then_ hb hb3
  clear k0 k1
  go_wp2_with fail
  refine (HE.out _ (GX.out _ hb13)).mono ?_
  rintro e w5 ⟨A5, c5, vs, O, rfl, hm, hP, hb5⟩
  have hb15 := Ext.then_ hb13 hb5
  have G5 := gO_grey hm
  have hb6 := Ext.more hb15 (.cells #[.slice A5 H c5] 31)
  have k6 := (SX.out _ hb6).cell 0
  have k7 := (SX.out _ hb6).cell 1
  simp at k6 k7
  have PV := Lib.hid (F2.out O hP.out)
  clear hm hb5
  go_wp2_with fail
  generalize w5.alloc (.cells #[.slice A5 H c5] 31) = w6 at *
  refine (gO_at G5 ha1 ha2).mono ?_
  rintro e w7 ⟨rfl, hb7⟩
  have HB := Lib.hid (Ext.then_ (Ext.then_ B1 hb6) hb7)
  clear k6 k7 G5 hb7
  go_wp2_with fail
  go_ret2
  exact ⟨by rw [PV.out]; rfl, HB.out⟩

set_option maxRecDepth 100000 in
set_option maxHeartbeats 2000000 in
theorem spillAtS_any (A : Option Addr) (c : Nat) (rows : List (List Int)) (ax ay : Int) (w : World) (h : MatRd w A rows) (hn : rows.length ≤ 1000000000) (hr : ∀ i (h : i < rows.length), rows[i].length ≤ 1000000000) :
    Calls Try.prog 26 #[.agg #[.slice A rows.length c], .agg #[.int .i64 ax, .int .i64 ay]] w fun e w' => e = .returned (.tuple #[.int .i64 (spillV rows ax ay), .bool (inR rows ax ay)]) ∧ Below w.heap.size w w' := by
  obtain ⟨wB, hwB⟩ : ∃ wB, (w.alloc (.cells #[.slice A rows.length c] 31)).alloc (.cells #[.int .i64 ax, .int .i64 ay] 28) = wB := ⟨_, rfl⟩
  have B1 : Below w.heap.size w wB := by rw [← hwB]; exact Ext.more (Ext.more (Ext.refl _) _) _
  have G1 : GreyAt wB w.heap.size A c rows := by rw [← hwB]; exact (grey_box h).ext (Ext.more (Ext.refl _) _)
  have S0 : Blk wB (w.heap.size + 1) 28 #[.int .i64 ax, .int .i64 ay] := by
    have := Blk.made (w.alloc (.cells #[.slice A rows.length c] 31)) 28 #[.int .i64 ax, .int .i64 ay]
    rw [hwB] at this; simpa using this
  have VG := Lib.hid (fun V (hV : GreyAt V w.heap.size A c rows) => isGreyS_any w.heap.size A c rows V hV hn hr)
  have GX := Lib.hid (fun V (hb : Below wB.heap.size wB V) => G1.ext hb)
  have SX := Lib.hid (fun V (hb : Below wB.heap.size wB V) => S0.under hb S0.lt)
  have c0 := G1.cell
  obtain ⟨W, hW⟩ : ∃ W, tabW rows = W := ⟨_, rfl⟩
  obtain ⟨H, hH⟩ : ∃ H, rows.length = H := ⟨_, rfl⟩
  rw [hH] at c0 hwB ⊢
  cases hg : greyOk rows
  · have F : Hid (inR rows ax ay = false) := by simp [Hid, inR, hg]
    have F2 : Hid (spillV rows ax ay = 0) := by rw [Hid, spillV, F.out]; rfl
    rw [hg] at VG
    rw [F.out, F2.out]
    clear hg hn hr h hW hH G1
    go_enter Try.func26, Try.ntmps26
    go_wp2_with fail
    try simp only [hwB]
    refine (VG.out _ (GX.out _ (Ext.refl _))).mono ?_
    rintro e w2 ⟨rfl, nq, rfl⟩
    have hb : Below wB.heap.size wB (wB.drewN nq) := Ext.drawN (Ext.refl _) _
    generalize wB.drewN nq = w2 at *
    go_wp2_with fail
    go_ret2
    exact ⟨rfl, Ext.then_ B1 hb⟩
  rw [hg] at VG
  obtain ⟨s1, s2, s3, s4⟩ := tab_sizes hg
  have GN : GreyN rows W H (W * H) := ⟨hg, hW, hH, rfl⟩
  have PA := Lib.hid (fun V (hV : GreyAt V w.heap.size A c rows) => placeS_any w.heap.size A c rows W H ax ay V hV hW hH (by omega) (by omega) (by omega))
  cases ha : inG W H (ax, ay)
  · have F : Hid (inR rows ax ay = false) := by simp [Hid, inR, hW, hH, ha]
    have F2 : Hid (spillV rows ax ay = 0) := by rw [Hid, spillV, F.out]; rfl
    rw [ha] at PA
    rw [F.out, F2.out]
    clear hg hn hr h hW hH G1 s1 s2 s3 s4 ha GN
    generalize plcO W H ax ay = pa at *
    go_enter Try.func26, Try.ntmps26
    go_wp2_with fail
    try simp only [hwB]
    refine (VG.out _ (GX.out _ (Ext.refl _))).mono ?_
    rintro e w2 ⟨rfl, nq, rfl⟩
    have hb : Below wB.heap.size wB (wB.drewN nq) := Ext.drawN (Ext.refl _) _
    generalize wB.drewN nq = w2 at *
    have k0 := (SX.out _ hb).cell 0
    have k1 := (SX.out _ hb).cell 1
    simp at k0 k1
    go_wp2_with fail
    refine (PA.out _ (GX.out _ hb)).mono ?_
    rintro e w3 ⟨rfl, hb3⟩
    have hb13 := Ext.then_ hb hb3
    clear k0 k1
    go_wp2_with fail
    go_ret2
    exact ⟨rfl, Ext.then_ B1 hb13⟩
  obtain ⟨a1, a2, rfl, rfl, ha1, ha2, pa⟩ := inG_nat ha
  have F : Hid (inR rows a1 a2 = true) := by simp [Hid, inR, hW, hH, ha, hg]
  have F2 : Hid (∀ O, IsPass W (W * H) (gF rows W) (fun i => edgeB W H i = true) O → O (a2 * W + a1) = spillV rows a1 a2) := by
    intro O hO
    rw [spillV, F.out, if_pos rfl, spillF, pR, hW, hH, pa]
    exact (passL_get hO (pl_lt ha1 ha2)).symm
  rw [ha, plcO, if_pos ha, pa] at PA
  have QN : Hid (a2 * W + a1 < W * H) := pl_lt ha1 ha2
  have HE := Lib.hid (fun V (hV : GreyAt V w.heap.size A c rows) => spillsS_any w.heap.size A c rows W H (W * H) V hV GN)
  rw [F.out]
  generalize spillV rows a1 a2 = pv at *
  generalize a2 * W + a1 = qa at *
  have NH : Hid (W * H ≤ 256) := Nat.le_trans (Nat.mul_le_mul (show W ≤ 16 by omega) (show H ≤ 16 by omega)) (by decide)
  obtain ⟨n, hnn⟩ : ∃ n, W * H = n := ⟨_, rfl⟩
  rw [hnn] at QN HE F2 NH
  clear hg hn hr h hW hH G1 s1 s2 s3 s4 ha GN pa hnn
  go_enter Try.func26, Try.ntmps26
  go_wp2_with fail
  try simp only [hwB]
  refine (VG.out _ (GX.out _ (Ext.refl _))).mono ?_
  rintro e w2 ⟨rfl, nq, rfl⟩
  have hb : Below wB.heap.size wB (wB.drewN nq) := Ext.drawN (Ext.refl _) _
  generalize wB.drewN nq = w2 at *
  have k0 := (SX.out _ hb).cell 0
  have k1 := (SX.out _ hb).cell 1
  simp at k0 k1
  go_wp2_with fail
  refine (PA.out _ (GX.out _ hb)).mono ?_
  rintro e w3 ⟨rfl, hb3⟩
  have hb13 := Ext.then_ hb hb3
  clear k0 k1
  go_wp2_with fail
  refine (HE.out _ (GX.out _ hb13)).mono ?_
  rintro e w5 ⟨g5, O, rfl, hg5, hO, hP, hb5⟩
  have PV := Lib.hid (F2.out O hP.out)
  have HB := Lib.hid (Ext.then_ (Ext.then_ B1 hb13) hb5)
  have qn := QN.out
  have cq := (hO.cell qa).trans (intC_get _ qa (by rw [fL_length]; exact qn))
  rw [fL_get] at cq
  have q0 : (0 : Int) ≤ (qa : Int) := by omega
  have q1 : (qa : Int) < (n : Int) := by omega
  have g5l := hO.lt
  generalize O qa = ov at *
  clear hb5 hO hP
  go_wp2_with fail
  go_ret2
  exact ⟨by rw [← PV.out]; rfl, HB.out⟩
end Go.Proofs.Ytajepoopicoodaa
