/- PictureFromRuns, the reference's. -/
import Derived.Test.YtdbelajgndclfaaRuns
import Derived.Test.YtdbelajgndclfaaAlongQ
import Derived.Test.YtdbelajgndclfaaResP
namespace Go.Proofs.Ytdbelajgndclfaa
open Go.RowKit

/-- The list under way, the spots, the cell of the result. -/
structure FsM (w : World) (gl : Nat) (L : List Bool) (vis : List (Int × Int)) (wr : World) : Prop where
  list : Blk wr gl 4 (boolC L)
  out : Blk wr w.heap.size 26 #[.slice none 0 0]
  vis : Blk wr (w.heap.size + 1) 114 (spC vis)
  ext : Below w.heap.size w wr
theorem FsM.drewN {w : World} {gl : Nat} {L : List Bool} {vis : List (Int × Int)} {wr : World} (h : FsM w gl L vis wr) (k : Nat) : FsM w gl L vis (wr.drewN k) := ⟨h.list, h.out, h.vis, Ext.drawN h.ext k⟩
theorem FsM.later {w : World} {gl : Nat} {L : List Bool} {vis : List (Int × Int)} {wr w' : World} (h : FsM w gl L vis wr) (hb : Below wr.heap.size wr w') : FsM w gl L vis w' :=
  ⟨h.list.under hb h.list.lt, h.out.under hb h.out.lt, h.vis.under hb h.vis.lt, Ext.then_ h.ext hb⟩
theorem FsM.put {w : World} {gl : Nat} {L : List Bool} {vis : List (Int × Int)} {wr : World} (h : FsM w gl L vis wr) (hg : w.heap.size ≤ gl) (i : Nat) (b : Bool) : FsM w gl (L.set i b) vis (wr.setCell ⟨gl, i, none⟩ (.bool b)) :=
  ⟨by have := h.list.store i (.bool b); rwa [boolC_set] at this, h.out.apart (p := ⟨gl, i, none⟩) (fun e => h.list.ne h.out (by decide) e.symm) _, h.vis.apart (p := ⟨gl, i, none⟩) (fun e => h.list.ne h.vis (by decide) e.symm) _, h.ext.setCell (p := ⟨gl, i, none⟩) hg _⟩
theorem boolC_rd {w : World} {gl : Nat} {L : List Bool} (h : Blk w gl 4 (boolC L)) : Rd w (some ⟨gl, 0, none⟩) (bools L) := by
  intro hn
  refine ⟨gl, rfl, h.lt, fun i hi => ?_⟩
  have hi' : i < L.length := by simpa [bools] using hi
  rw [h.cell, boolC_get L i hi']
  simp [bools]

set_option maxRecDepth 100000 in
set_option maxHeartbeats 2000000 in
theorem fromRunsS_any (c o : Int) (A : Option Addr) (ca : Nat) (runs : List Int) (w : World) (h : Rd w A (ints runs)) (hn : runs.length ≤ 1048576) :
    Calls Try.prog 48 #[.int .i64 c, .int .i64 o, .slice A runs.length ca] w (PicRes w (if frOk c o runs then rowsTo (frPic c o runs) (side o).toNat (side o).toNat else []) (frOk c o runs)) := by
  have CO := Lib.hid (fun V => ask_any c o V)
  have T1 := Blk.made w 26 #[.slice none 0 0]
  have B1 : Below w.heap.size w (w.alloc (.cells #[.slice none 0 0] 26)) := Ext.more (Ext.refl _) _
  cases hc : curveOkB c o
  · have F : Hid (frOk c o runs = false) := by simp [Hid, frOk, hc]
    rw [hc] at CO
    rw [F.out, if_neg (by decide)]
    clear hc h
    generalize runs.length = n at *
    go_enter Try.func48, Try.ntmps48
    go_wp2_with (go_at_call 105; refine (CO.out _).mono ?_; rintro e w' ⟨rfl, rfl⟩)
    refine bodyPost_ret (v := .tuple #[.agg #[.slice none 0 0], .bool false]) (by simp [results, Try.results48, go_sem]) rfl ⟨none, 0, rfl, World.ownsRow_nil _ _ _ _, ?_⟩
    exact B1
  rw [hc] at CO
  obtain ⟨⟨c0, c3⟩, o0, o4⟩ := curveOk_iff.1 hc
  obtain ⟨s, hs⟩ : ∃ s : Nat, side o = s := ⟨(side o).toNat, by have := side_pos o0 o4; omega⟩
  have hS1 := side_pos o0 o4
  have hS2 := side_le o0 o4
  rw [hs] at hS1 hS2
  have e1 : (side o).toNat = s := by omega
  rw [e1]
  have VH := Lib.hid (fun V => spotsS_any c o V c0 c3 o0 o4 s hs)
  have vl := visTo_length c o s s
  have VA := Lib.hid (fun i hi => vis_at c o c0 c3 o0 o4 s hs i hi)
  have SD0 := fun V => sideO_any o V o0 o4
  rw [hs] at SD0
  have SD := Lib.hid SD0
  clear SD0
  have EF : Hid (frOk c o runs = frOkV (visTo c o s s) s runs) := by rw [Hid, frOk, hc, e1, Bool.true_and]
  have EP : Hid (frPic c o runs = (frS (visTo c o s s) s runs runs.length).1) := by rw [Hid, frPic, e1]
  have hss : s * s ≤ 256 := Nat.le_trans (Nat.mul_le_mul (show s ≤ 16 by omega) (show s ≤ 16 by omega)) (by decide)
  have FL0 := frS_length (visTo c o s s) s runs runs.length
  have AH := Lib.hid (fun p A0 cc L (hl : L.length = s * s) V (hV : PicAt V p A0 cc (rowsTo L s s)) => (show Calls _ _ _ _ _ from by
    have h1 := alongS_any p A0 cc (rowsTo L s s) c o V hV (told_ok (by omega) (by omega) (by omega) (by omega)) c0 c3 o0 o4 s hs
    rw [told_bits (by omega) hl, told_w (by omega), rowsTo_length] at h1
    exact h1))
  rw [EF.out, EP.out]
  show Calls _ _ _ _ (FrRes w (frS (visTo c o s s) s runs runs.length).1 s (frOkV (visTo c o s s) s runs))
  clear EF EP e1 hc hs
  generalize visTo c o s s = vis at *
  have N1 := Lib.hid (fun k (hk : k < runs.length) (h : frIn vis s runs k = false) => frOkV_no_in hk h vl)
  have N4 := Lib.hid (fun (h : s * s + 1 < runs.length) => frOkV_no_len h vl)
  have EN := Lib.hid (fun (h : ∀ k, k < runs.length → frIn vis s runs k = true) => frOkV_end h)
  have FA := Lib.hid (fun k (hk : k ≤ runs.length) h => frS_at vis s runs k hk h)
  have FL := Lib.hid (frS_length vis s runs)
  have F0 : Hid (frS vis s runs 0 = (List.replicate (s * s) false, 0)) := rfl
  have FS : Hid (∀ k, frS vis s runs (k + 1) = (fillN vis s (frS vis s runs k).1 (frS vis s runs k).2 (odd2 k) (runs.getD k 0).toNat, (frS vis s runs k).2 + (runs.getD k 0).toNat)) := fun k => rfl
  have FI : Hid (∀ k, frIn vis s runs k = inB (runs.getD k 0) 0 ((s * s : Nat) - (frS vis s runs k).2)) := fun k => rfl
  have RH := Lib.hid (fun V (hb : Below w.heap.size w V) => h.ext hb)
  have MH := Lib.hid (fun A0 cc L (hl : L.length = s * s) V (hV : Rd V A0 (bools L)) => make_any A0 cc s s L V hV (by omega) (by omega) (by omega) hl)
  have VL := Lib.hid vl
  have FO : Hid (∀ (ok : Bool) (w' : World), ok = false → Below w.heap.size w w' → FrRes w (frS vis s runs runs.length).1 s ok (.returned (.tuple #[.agg #[.slice none 0 0], .bool false])) w') := by
    rintro ok w' rfl hb
    exact ⟨none, 0, rfl, World.ownsRow_nil _ _ _ _, hb⟩
  have YES : Hid (∀ (ok : Bool) (w' : World) A' c', ok = true → w'.ownsRow w.heap.size 9 1 (.slice A' s c') s (strs (rowsTo (frS vis s runs runs.length).1 s s)) → Below w.heap.size w w' → FrRes w (frS vis s runs runs.length).1 s ok (.returned (.tuple #[.agg #[.slice A' s c'], .bool true])) w') := by
    rintro ok w' A' c' rfl h1 h2
    have hl := rowsTo_length (frS vis s runs runs.length).1 s s
    exact ⟨A', c', by rw [if_pos rfl, hl], by rw [if_pos rfl, hl]; exact h1, h2⟩
  have EQ := Lib.hid (fun A1 c1 R V (h1 : Rd V A1 (ints R)) (h2 : Rd V A (ints runs)) (hR : R.length ≤ 1000000) (hR2 : runs.length ≤ 1000000) => sameS_any A1 A c1 ca R.length runs.length R runs V h1 h2 rfl rfl (by omega) (by omega))
  clear h vl
  obtain ⟨n, hnL⟩ : ∃ n, runs.length = n := ⟨_, rfl⟩
  have HN := Lib.hid hnL
  rw [hnL] at hn EQ N1 N4 EN FA FO YES ⊢
  clear hnL FL0
  generalize frOkV vis s runs = ok at *
  by_cases h257 : 257 < n
  · have NO := Lib.hid (N4.out (by omega))
    have i1 : (257 : Int) < (n : Int) := by omega
    clear h257
    go_enter Try.func48, Try.ntmps48
    go_wp2_with (go_at_call 105; refine (CO.out _).mono ?_; rintro e w' ⟨rfl, rfl⟩)
    refine bodyPost_ret (v := .tuple #[.agg #[.slice none 0 0], .bool false]) (by simp [results, Try.results48, go_sem]) rfl (FO.out _ _ NO.out ?_)
    exact B1
  obtain ⟨i0, hi, hz0, hz1, hz2⟩ := info_parts boolInfo
  have hmk : ∀ V : World, (Instr.makeSlice 95 (.int .i64 ((s : Int) * s)) (.int .i64 ((s : Int) * s))).run Try.prog V = .ok (.slice (some ⟨V.heap.size, 0, none⟩) (s * s) (s * s)) (V.alloc (.cells (boolC (List.replicate (s * s) false)) 4)) := by
    intro V
    rw [show (s : Int) * s = ((s * s : Nat) : Int) by rw [Int.natCast_mul]]
    have h := run_make (P := Try.prog) V 95 4 i0 _ Try.underlying95 hi hz0 .i64 .i64 ((s * s : Nat) : Int) ((s * s : Nat) : Int) (by omega) (Int.le_refl _) (by rw [hz2]; omega) (by omega)
    rw [h, hz1, Int.toNat_natCast]
    show Result.ok _ (V.alloc (.cells (madeCells #[.bool false] (s * s * 1)) _)) = _
    rw [Nat.mul_one, boolC_made]
  have i257 : ¬ (257 : Int) < (n : Int) := by omega
  clear hi hz0 hz1 hz2
  go_enter Try.func48, Try.ntmps48
  go_wp2_with fail
  refine (CO.out _).mono ?_
  rintro e w' ⟨rfl, rfl⟩
  go_wp2_with fail
  refine (VH.out _).mono ?_
  rintro e w1 ⟨rfl, hV, hb1⟩
  have hV1 : Blk w1 (w.heap.size + 1) 114 (spC vis) := by simpa using hV
  have T2 := T1.under hb1 T1.lt
  have B2 := Ext.then_ B1 hb1
  have hz1 := B2.size
  have M0 : FsM w w1.heap.size (frS vis s runs 0).1 vis (w1.alloc (.cells (boolC (List.replicate (s * s) false)) 4)) :=
    ⟨Blk.made _ _ _, T2.more _, hV1.more _, Ext.more B2 _⟩
  have HM0 := Lib.hid M0
  have hgw : w.heap.size ≤ w1.heap.size := hz1
  have hcc : (s : Int) * s ≤ 256 := by rw [← Int.natCast_mul]; omega
  clear hV hV1 T1 T2 B1 B2 hb1 CO VH hS1 M0
  go_wp2_with fail
  go_loopw [10, 11, 12] (fun a i _ wr => ∃ k : Nat, k ≤ n ∧ i = .int .i64 k ∧ a = .int .i64 (((frS vis s runs k).2 : Nat) : Int) ∧ FsM w w1.heap.size (frS vis s runs k).1 vis wr ∧ Hid (∀ j, j < k → frIn vis s runs j = true)) (fun _ i _ _ => n - (intOf i).toNat)
  case atStart => exact ⟨0, Nat.zero_le _, rfl, by rw [F0.out]; rfl, HM0.out, fun j h => absurd h (Nat.not_lt_zero _)⟩
  case round =>
    obtain ⟨k, hk, rfl, rfl, hM, hall⟩ := hrel
    clear HM0 hmk
    have hat := (FA.out k hk hall).2
    by_cases hlt : k < n
    · have hz := hM.ext.size
      have ho := hM.out.lt
      have RC := Lib.hid (fun V (hV : Below w.heap.size w V) => ints_cell (RH.out V hV) (k := k) (by rw [HN.out]; exact hlt))
      obtain ⟨gA, rfl, hgA, c1⟩ := RC.out wr hM.ext
      have N1k := Lib.hid (N1.out k hlt)
      have FSk := Lib.hid (FS.out k)
      have FIk := Lib.hid (FI.out k)
      have SU := Lib.hid (fun (h : frIn vis s runs k = true) q (hq : q < k + 1) => (show frIn vis s runs q = true from by
        rcases Nat.lt_succ_iff_lt_or_eq.1 hq with h1 | h1
        · exact hall q h1
        · rw [h1]; exact h))
      have MM := Lib.hid hM
      have FLk := FL.out k
      clear hall hM
      generalize frIn vis s runs k = fk at *
      generalize hst : frS vis s runs k = st at *
      obtain ⟨L, a⟩ := st
      simp only at hat MM FIk FLk ⊢
      clear hst
      generalize runs.getD k 0 = r at *
      have i0 : (0 : Int) ≤ (k : Int) := by omega
      have i1 : (k : Int) < (n : Int) := by omega
      have IN := Lib.hid (fun V => inS_any r 0 ((s : Int) * s - (a : Int)) V)
      have w0 : ((s * s : Nat) : Int) - (a : Int) = ((s * s - a : Nat) : Int) := by omega
      have w1' : inB r 0 ((s : Int) * s - (a : Int)) = inB r 0 ((s * s - a : Nat) : Int) := by rw [← w0, Int.natCast_mul]
      rw [w1'] at IN
      rw [w0] at FIk
      have hss2 : (s : Int) * s ≤ 256 := by rw [← Int.natCast_mul]; omega
      have hss3 : (a : Int) ≤ (s : Int) * s := by rw [← Int.natCast_mul]; omega
      clear w1' hcc
      cases hin : inB r 0 ((s * s - a : Nat) : Int)
      · have NO := Lib.hid (N1k.out (by rw [FIk.out, hin]))
        rw [hin] at IN
        have To := MM.out.out
        have c0 := To.cell 0
        have f0 := To.free 0
        have cs := (To.store 0 (.slice none 0 0)).cell 0
        simp at c0 cs
        clear hin To w0
        go_wp2_with (go_at_call 93; refine (IN.out _).mono ?_; rintro e w' ⟨rfl, rfl⟩)
        refine bodyPost_ret (v := .tuple #[.agg #[.slice none 0 0], .bool false]) (by simp [results, Try.results48, go_sem, cs]) rfl (FO.out _ _ NO.out ?_)
        exact MM.out.ext.setCell (p := ⟨w.heap.size, 0, none⟩) (Nat.le_refl _) _
      · rw [hin] at IN
        have hfk : fk = true := by rw [FIk.out, hin]
        have SU1 := Lib.hid (SU.out hfk)
        obtain ⟨r0, r1⟩ := inB_iff.1 hin
        obtain ⟨rn, rfl⟩ := Int.eq_ofNat_of_zero_le r0
        have r2 : a + rn ≤ s * s := by omega
        rw [Int.toNat_natCast] at FSk
        have FSk1 : Hid (frS vis s runs (k + 1) = (fillN vis s L a (odd2 k) rn, a + rn)) := FSk.out
        clear hin w0 hfk FSk SU
        obtain ⟨wo, rfl⟩ : ∃ wo : World, wo = wr := ⟨_, rfl⟩
        go_wp2_with (go_at_call 93; refine (IN.out _).mono ?_; rintro e w' ⟨rfl, rfl⟩)
        go_loopw [12] (fun v wr => ∃ j : Nat, j ≤ rn ∧ v = .int .i64 ((a + j : Nat) : Int) ∧ FsM w w1.heap.size (fillN vis s L a (odd2 k) j) vis wr) (fun v _ => (a + rn) - (intOf v).toNat)
        case atStart => exact ⟨0, Nat.zero_le _, rfl, MM.out⟩
        case round =>
          obtain ⟨j, hj, rfl, hM2⟩ := hrel
          obtain ⟨gB, hgB, _, c2⟩ := RC.out wr hM2.ext
          obtain rfl : gA = gB := by injection hgB with h; injection h
          clear hgB c1
          by_cases hjl : j < rn
          · have hv : a + j < vis.length := by rw [VL.out]; omega
            obtain ⟨v0, v1, v2, v3, _⟩ := VA.out (a + j) hv
            obtain ⟨p1, p2⟩ := hM2.vis.spots.2 (a + j) hv
            have NX : Hid (fillN vis s L a (odd2 k) (j + 1) = (fillN vis s L a (odd2 k) j).set (posV s vis[a + j]) (odd2 k)) := by
              rw [Hid, fillN, List.getD_eq_getElem?_getD, List.getElem?_eq_getElem hv, Option.getD_some]
            have MM2 := Lib.hid hM2
            have vlt := hM2.vis.lt
            have hne : w1.heap.size ≠ w.heap.size + 1 := hM2.list.ne hM2.vis (by decide)
            generalize vis[a + j] = q at *
            obtain ⟨qx, qy⟩ := q
            simp only at v0 v1 v2 v3 p1 p2 NX
            obtain ⟨qx, rfl⟩ := Int.eq_ofNat_of_zero_le v0
            obtain ⟨qy, rfl⟩ := Int.eq_ofNat_of_zero_le v2
            have hpos : posV s ((qx : Int), (qy : Int)) = qy * s + qx := by
              unfold posV; simp only; rw [← Int.natCast_mul, ← Int.natCast_add, Int.toNat_natCast]
            rw [hpos] at NX
            have hps : qy * s + qx < s * s := idx_lt (by omega) (by omega)
            obtain ⟨ps, hps2⟩ : ∃ ps, qy * s + qx = ps := ⟨_, rfl⟩
            obtain ⟨oldb, g3⟩ : ∃ oldb, wr.cell? ⟨w1.heap.size, ps, none⟩ = some (.bool oldb) := ⟨_, (hM2.list.cell ps).trans (boolC_get _ ps (by rw [fillN_length, FLk]; omega))⟩
            have f3 := hM2.list.free ps
            have glt := hM2.list.lt
            have i2 : (0 : Int) ≤ ((a + j : Nat) : Int) := by omega
            have i3 : ((a + j : Nat) : Int) < ((s * s : Nat) : Int) := by omega
            have i4 : a + j < 256 := by omega
            have i5 : ((a + j : Nat) : Int) < (s : Int) * s := by rw [← Int.natCast_mul]; omega
            have m1 : (k : Int).tmod 2 = (k : Int) % 2 := Int.tmod_eq_emod_of_nonneg (by omega)
            have b1 : ((k : Int) % 2 == 1) = odd2 k := by
              rw [Bool.eq_iff_iff]; simp [odd2]; omega
            have pv : (qy : Int) * s + qx = (ps : Int) := by rw [← hps2, Int.natCast_add, Int.natCast_mul]
            have qs : (qy : Int) * s ≤ 256 ∧ 0 ≤ (qy : Int) * s := by rw [← Int.natCast_mul]; omega
            have u1 : IntKind.i64.wrap ((qy : Int) * s) = (qy : Int) * s := IntWalk.i64_in _ (by omega)
            have u2 : IntKind.i64.wrap ((qy : Int) * s + qx) = (ps : Int) := by rw [pv]; exact IntWalk.i64_in _ (by omega)
            have u3 : (0 : Int) ≤ (ps : Int) := by omega
            have u4 : (ps : Int) < (s : Int) * s := by rw [← Int.natCast_mul]; omega
            have u5 : ((a + j : Nat) : Int) < ((a + rn : Nat) : Int) := by omega
            have NX2 : Hid (fillN vis s L a (odd2 k) (j + 1) = (fillN vis s L a (odd2 k) j).set ps (odd2 k)) := by rw [Hid, NX.out, hps2]
            have PV := Lib.hid pv
            clear hM2 v0 v1 v2 v3 hpos hv NX hps2 pv
            generalize odd2 k = ob at *
            obtain ⟨aj, haj⟩ : ∃ aj, a + j = aj := ⟨_, rfl⟩
            have HAJ := Lib.hid haj
            rw [haj] at p1 p2 i2 i3 i4 i5 u5 ⊢
            clear haj
            go_wp2_with fail
            go_region_held3 (fun w' => w'.cell? ⟨w.heap.size + 1, aj * 2, none⟩ = some (.int .i64 (qx : Int)) ∧ w'.cell? ⟨w.heap.size + 1, aj * 2 + 1, none⟩ = some (.int .i64 (qy : Int)))
              (first | (go_split_ands; refine ⟨?_, ?_⟩ <;> exact cell_drew (cell_other hne (by assumption))) | go_keep)
              (first | (go_at_call 112; refine (SD.out _).mono ?_; rintro e w' ⟨rfl, rfl⟩))
            have HX : Hid (FsM w w1.heap.size (fillN vis s L a ob (j + 1)) vis (World.drew (wr.setCell ⟨w1.heap.size, ps, none⟩ (.bool ob)))) := by
              rw [Hid, NX2.out]; exact (MM2.out.put hgw ps ob).drewN 1
            clear p1 p2 g3 f3
            go_wp2_with fail
            go_roundw
            case rel => exact ⟨j + 1, by omega, by have := HAJ.out; rw [← this]; go_num, HX.out⟩
            case measure => simp [intOf]; omega
          · have hM3 : FsM w w1.heap.size (frS vis s runs (k + 1)).1 vis wr := by
              obtain rfl : j = rn := by omega
              rw [FSk1.out]; exact hM2
            have HM3 := Lib.hid hM3
            have u5 : ¬ ((a + j : Nat) : Int) < ((a + rn : Nat) : Int) := by omega
            clear hM2 hM3
            go_wp2_with fail
            go_roundw
            case rel => exact ⟨k + 1, by omega, by go_num, by rw [FSk1.out]; simp, HM3.out, SU1.out⟩
            case measure => simp [intOf]; omega
    · obtain rfl : k = n := by omega
      have EN1 := Lib.hid (EN.out hall)
      obtain ⟨L, hL⟩ : ∃ L, (frS vis s runs k).1 = L := ⟨_, rfl⟩
      have HLL := Lib.hid hL
      have hlen : L.length = s * s := by rw [← hL]; exact FL.out k
      rw [hL] at hM EN1
      have HM := Lib.hid hM
      have HR := Lib.hid (boolC_rd hM.list)
      clear hL hM hall
      have M1 := Lib.hid (fun V hV => MH.out (some ⟨w1.heap.size, 0, none⟩) (s * s) L hlen V hV)
      have A1 := Lib.hid (fun p A0 cc V hV => AH.out p A0 cc L hlen V hV)
      have hcl := (colR_facts (alB L s s vis)).1
      rw [show (alB L s s vis).length = s * s by rw [alB_length, VL.out]] at hcl
      have rl := rowsTo_length L s s
      clear MH AH hlen
      go_wp2_with fail
      refine (SD.out _).mono ?_
      rintro e w' ⟨rfl, rfl⟩
      go_wp2_with fail
      refine (M1.out _ HR.out).mono ?_
      rintro e w2 ⟨A2, c2, rfl, hown2, hb2⟩
      have HM2 := Lib.hid (HM.out.later (Ext.more hb2 (.cells #[.slice A2 s c2] 26)))
      have P2 : PicAt (w2.alloc (.cells #[.slice A2 s c2] 26)) w2.heap.size A2 c2 (rowsTo L s s) := by
        refine ⟨by simp, ?_, ?_⟩
        · rw [rl]; exact cell_new _ _ _ _
        · have := (Rd.of_own hown2).ext (Ext.more (Ext.refl _) (.cells #[.slice A2 s c2] 26))
          exact this
      have HP2 := Lib.hid P2
      have O2 := Lib.hid (hown2.alloc (.cells #[.slice A2 s c2] 26))
      have T2 := Blk.made w2 26 #[.slice A2 s c2]
      have hz2 : wr.heap.size ≤ w2.heap.size := hb2.size
      have ho2 := HM.out.out.lt
      clear hown2 hb2 P2 HM HR
      go_wp2_with fail
      generalize w2.alloc (.cells #[.slice A2 s c2] 26) = V2 at *
      refine (A1.out _ _ _ _ HP2.out).mono ?_
      rintro e w3 ⟨A3, c3, rfl, hown3, hb3⟩
      have HM3 := Lib.hid (HM2.out.later hb3)
      have R3 := Lib.hid (Rd.of_own hown3)
      have O3 := Lib.hid (own_ext hb3 O2.out)
      have T3 := T2.under hb3 T2.lt
      clear hown3 hb3 HP2 O2 T2
      go_wp2_with fail
      refine (EQ.out _ _ _ _ R3.out (RH.out _ HM3.out.ext) (by omega) (by omega)).mono ?_
      rintro e w6 ⟨rfl, nd, rfl⟩
      rw [← EN1.out]
      have HM6 := Lib.hid (HM3.out.drewN nd)
      have To := HM6.out.out
      have ho := HM6.out.out.lt
      have kT : (World.drewN w3 nd).cell? ⟨w2.heap.size, 0, none⟩ = some (.slice A2 s c2) := by
        have := T3.cell 0
        simp at this
        exact this
      cases hok : ok
      · have c0 := To.cell 0
        have f0 := To.free 0
        have cs := (To.store 0 (.slice none 0 0)).cell 0
        simp at c0 cs
        have HOK := Lib.hid hok
        clear To hok
        go_wp2_with fail
        refine bodyPost_ret (v := .tuple #[.agg #[.slice none 0 0], .bool false]) (by simp [results, Try.results48, go_sem, cs]) rfl (FO.out _ _ HOK.out ?_)
        exact HM6.out.ext.setCell (p := ⟨w.heap.size, 0, none⟩) (Nat.le_refl _) _
      · have c0 := To.cell 0
        have f0 := To.free 0
        have cs := (To.store 0 (.slice A2 s c2)).cell 0
        simp at c0 cs
        have HOK := Lib.hid hok
        clear To hok
        go_wp2_with fail
        refine bodyPost_ret (v := .tuple #[.agg #[.slice A2 s c2], .bool true]) (by simp [results, Try.results48, go_sem, cs]) rfl (YES.out _ _ _ _ HOK.out ?_ ?_)
        · have := O3.out
          rw [← HLL.out] at this
          exact own_base (ownsRow_setCell_below (w := World.drewN w3 nd) this (a := ⟨w.heap.size, 0, none⟩) (by show w.heap.size < wr.heap.size; omega) _) (by omega)
        · exact HM6.out.ext.setCell (p := ⟨w.heap.size, 0, none⟩) (Nat.le_refl _) _
end Go.Proofs.Ytdbelajgndclfaa
