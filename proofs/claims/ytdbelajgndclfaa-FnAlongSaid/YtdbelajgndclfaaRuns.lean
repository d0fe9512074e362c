/- PictureFromRuns, the program's. -/
import Derived.Test.YtdbelajgndclfaaRunsM
import Derived.Test.YtdbelajgndclfaaSlEq
import Derived.Test.YtdbelajgndclfaaWith
import Derived.Deep.RegionWith
namespace Go.Proofs.Ytdbelajgndclfaa
open Go.RowKit

theorem blank_new (W H : Nat) (w : World) (hW : W ≤ 1000) (hH : H ≤ 1000) :
    Calls Try.prog 98 #[.int .i64 W, .int .i64 H] w fun e w' => ∃ p g, e = .returned (.pointer (some ⟨p, 0, none⟩)) ∧ Img w' p g W H (List.replicate (W * H) false) ∧ w.heap.size ≤ p ∧ w.heap.size ≤ g ∧ Below w.heap.size w w' :=
  (blank_any W H w hW hH).mono fun _ w' ⟨h1, h2⟩ => ⟨w.heap.size + 1, w.heap.size, h1, by rw [← h2]; exact blank_img w W H, by omega, by omega, by rw [← h2]; exact Ext.more (Ext.more (Ext.refl _) _) _⟩
/-- The picture under way, the spots, the cell of the result. -/
structure FrM (w : World) (p g s : Nat) (L : List Bool) (vis : List (Int × Int)) (wr : World) : Prop where
  img : Img wr p g s s L
  out : Blk wr w.heap.size 26 #[.slice none 0 0]
  vis : Blk wr (w.heap.size + 1) 114 (spC vis)
  ext : Below w.heap.size w wr
theorem FrM.drewN {w : World} {p g s : Nat} {L : List Bool} {vis : List (Int × Int)} {wr : World} (h : FrM w p g s L vis wr) (k : Nat) : FrM w p g s L vis (wr.drewN k) := ⟨h.img.drewN k, h.out, h.vis, Ext.drawN h.ext k⟩
theorem FrM.later {w : World} {p g s : Nat} {L : List Bool} {vis : List (Int × Int)} {wr w' : World} (h : FrM w p g s L vis wr) (hb : Below wr.heap.size wr w') : FrM w p g s L vis w' :=
  ⟨h.img.ext hb, h.out.under hb h.out.lt, h.vis.under hb h.vis.lt, Ext.then_ h.ext hb⟩
theorem FrM.put {w : World} {p g s : Nat} {L : List Bool} {vis : List (Int × Int)} {wr : World} (h : FrM w p g s L vis wr) (hg : w.heap.size ≤ g) (i : Nat) (b : Bool) : FrM w p g s (L.set i b) vis (wr.setCell ⟨g, i, none⟩ (.bool b)) :=
  ⟨h.img.put i b, h.out.apart (p := ⟨g, i, none⟩) (fun e => h.img.bits.ne h.out (by decide) e.symm) _, h.vis.apart (p := ⟨g, i, none⟩) (fun e => h.img.bits.ne h.vis (by decide) e.symm) _, h.ext.setCell (p := ⟨g, i, none⟩) hg _⟩
theorem frSet_any (w : World) (p g s : Nat) (L : List Bool) (vis : List (Int × Int)) (x y : Nat) (b : Bool) (wr : World) (h : FrM w p g s L vis wr) (hg : w.heap.size ≤ g) (hs : s ≤ 1000) (hx : x < s) (hy : y < s) :
    Calls Try.prog 101 #[.pointer (some ⟨p, 0, none⟩), .int .i64 x, .int .i64 y, .bool b] wr fun e w' => e = .returned (.tuple #[]) ∧ FrM w p g s (L.set (y * s + x) b) vis w' :=
  (set_any p g s s L x y b wr h.img hs hs hx hy).mono fun _ _ ⟨h1, h2⟩ => ⟨h1, by rw [← h2]; exact (h.put hg _ b).drewN 1⟩

/-- What is returned. -/
def FrRes (w : World) (L : List Bool) (s : Nat) (ok : Bool) (e : Ending) (w' : World) : Prop := PicRes w (if ok then rowsTo L s s else []) ok e w'
set_option maxRecDepth 100000 in
set_option maxHeartbeats 2000000 in
theorem fromRuns_any (c o : Int) (A : Option Addr) (ca : Nat) (runs : List Int) (w : World) (h : Rd w A (ints runs)) (hn : runs.length ≤ 1048576) :
    Calls Try.prog 50 #[.int .i64 c, .int .i64 o, .slice A runs.length ca] w (PicRes w (if frOk c o runs then rowsTo (frPic c o runs) (side o).toNat (side o).toNat else []) (frOk c o runs)) := by
  have CO := Lib.hid (fun V => curveOk_any c o V)
  have T1 := Blk.made w 26 #[.slice none 0 0]
  have B1 : Below w.heap.size w (w.alloc (.cells #[.slice none 0 0] 26)) := Ext.more (Ext.refl _) _
  cases hc : curveOkB c o
  · have F : Hid (frOk c o runs = false) := by simp [Hid, frOk, hc]
    rw [hc] at CO
    rw [F.out, if_neg (by decide)]
    clear hc h
    generalize runs.length = n at *
    go_enter Try.func50, Try.ntmps50
    go_wp2_with (go_at_call 108; refine (CO.out _).mono ?_; rintro e w' ⟨rfl, rfl⟩)
    refine bodyPost_ret (v := .tuple #[.agg #[.slice none 0 0], .bool false]) (by simp [results, Try.results50, go_sem]) rfl ⟨none, 0, rfl, World.ownsRow_nil _ _ _ _, ?_⟩
    exact B1
  rw [hc] at CO
  obtain ⟨⟨c0, c3⟩, o0, o4⟩ := curveOk_iff.1 hc
  obtain ⟨s, hs⟩ : ∃ s : Nat, side o = s := ⟨(side o).toNat, by have := side_pos o0 o4; omega⟩
  have hS1 := side_pos o0 o4
  have hS2 := side_le o0 o4
  have hsw := side_wrap o0 o4
  rw [hs] at hS1 hS2 hsw
  have e1 : (side o).toNat = s := by omega
  have hsw2 : IntKind.i64.wrap (2 ^ o.toNat) = (s : Int) := by
    have h2 : (2 : Int) ^ o.toNat = (s : Int) := hs
    rw [h2]; exact IntWalk.i64_in _ (by omega)
  rw [e1]
  have VH := Lib.hid (fun V => visits_any c o V c0 c3 o0 o4 s hs)
  have vl := visTo_length c o s s
  have VA := Lib.hid (fun i hi => vis_at c o c0 c3 o0 o4 s hs i hi)
  have BH := Lib.hid (fun V => blank_new s s V (by omega) (by omega))
  have AH := Lib.hid (fun p g L V (hV : Img V p g s s L) => along_any p g s s L c o V hV (by omega) (by omega) c0 c3 o0 o4 s hs)
  have EF : Hid (frOk c o runs = frOkV (visTo c o s s) s runs) := by rw [Hid, frOk, hc, e1, Bool.true_and]
  have EP : Hid (frPic c o runs = (frS (visTo c o s s) s runs runs.length).1) := by rw [Hid, frPic, e1]
  rw [EF.out, EP.out]
  show Calls _ _ _ _ (FrRes w (frS (visTo c o s s) s runs runs.length).1 s (frOkV (visTo c o s s) s runs))
  clear EF EP e1 hc hs
  generalize visTo c o s s = vis at *
  have hss : s * s ≤ 256 := Nat.le_trans (Nat.mul_le_mul (show s ≤ 16 by omega) (show s ≤ 16 by omega)) (by decide)
  have N1 := Lib.hid (fun k (hk : k < runs.length) (h : frIn vis s runs k = false) => frOkV_no_in hk h vl)
  have N2 := Lib.hid (fun k (h0 : 0 < k) (hk : k < runs.length) (h : runs.getD k 0 = 0) => frOkV_no_zero h0 hk h vl)
  have N3 := Lib.hid (fun (h : ¬ (frS vis s runs runs.length).2 = s * s) => frOkV_no_at h vl)
  have EN := Lib.hid (fun (h : ∀ k, k < runs.length → frIn vis s runs k = true) => frOkV_end h)
  have FA := Lib.hid (fun k (hk : k ≤ runs.length) h => frS_at vis s runs k hk h)
  have FL := Lib.hid (frS_length vis s runs)
  have F0 : Hid (frS vis s runs 0 = (List.replicate (s * s) false, 0)) := rfl
  have FS : Hid (∀ k, frS vis s runs (k + 1) = (fillN vis s (frS vis s runs k).1 (frS vis s runs k).2 (odd2 k) (runs.getD k 0).toNat, (frS vis s runs k).2 + (runs.getD k 0).toNat)) := fun k => rfl
  have FI : Hid (∀ k, frIn vis s runs k = inB (runs.getD k 0) 0 ((s * s : Nat) - (frS vis s runs k).2)) := fun k => rfl
  have RH := Lib.hid (fun V (hb : Below w.heap.size w V) => h.ext hb)
  have CH := Lib.hid (fun A cc L V (hV : Rd V A (bools (alB L s s vis))) => colours_any A cc (s * s) (alB L s s vis) V hV (by rw [alB_length, vl]) (by omega))
  have TL := Lib.hid (fun p g L V (hV : Img V p g s s L) => told_any p g s s L V hV (by omega) (by omega))
  have SH := Lib.hid (fun p g (hg : w.heap.size ≤ g) L x y b wr (hM : FrM w p g s L vis wr) (hx : x < s) (hy : y < s) => frSet_any w p g s L vis x y b wr hM hg (by omega) hx hy)
  have VL := Lib.hid vl
  have FO : Hid (∀ (ok : Bool) (w' : World), ok = false → Below w.heap.size w w' → FrRes w (frS vis s runs runs.length).1 s ok (.returned (.tuple #[.agg #[.slice none 0 0], .bool false])) w') := by
    rintro ok w' rfl hb
    exact ⟨none, 0, rfl, World.ownsRow_nil _ _ _ _, hb⟩
  have YES : Hid (∀ (ok : Bool) (w' : World) A' c', ok = true → w'.ownsRow w.heap.size 9 1 (.slice A' s c') s (strs (rowsTo (frS vis s runs runs.length).1 s s)) → Below w.heap.size w w' → FrRes w (frS vis s runs runs.length).1 s ok (.returned (.tuple #[.agg #[.slice A' s c'], .bool true])) w') := by
    rintro ok w' A' c' rfl h1 h2
    have hl := rowsTo_length (frS vis s runs runs.length).1 s s
    exact ⟨A', c', by rw [if_pos rfl, hl], by rw [if_pos rfl, hl]; exact h1, h2⟩
  have EQ := Lib.hid (fun A1 c1 R V (h1 : Rd V A1 (ints R)) (h2 : Rd V A (ints runs)) (hR : R.length ≤ 1000000) => slicesEqual_any A1 A c1 ca R.length runs.length R runs V h1 h2 rfl rfl (by omega) (by omega))
  clear h vl
  obtain ⟨n, hnL⟩ : ∃ n, runs.length = n := ⟨_, rfl⟩
  have HN := Lib.hid hnL
  rw [hnL] at hn EQ N1 N2 N3 EN FA FO YES ⊢
  clear hnL
  generalize frOkV vis s runs = ok at *
  go_enter Try.func50, Try.ntmps50
  go_wp2_with fail
  refine (CO.out _).mono ?_
  rintro e w' ⟨rfl, rfl⟩
  go_wp2_with fail
  refine (VH.out _).mono ?_
  rintro e w1 ⟨rfl, hV, hb1⟩
  have hV1 : Blk w1 (w.heap.size + 1) 114 (spC vis) := by simpa using hV
  have T2 := T1.under hb1 T1.lt
  have B2 := Ext.then_ B1 hb1
  have HX := Lib.hid (And.intro hV1 (And.intro T2 B2))
  have hz1 := B2.size
  have kT := T2.cell 0
  simp at kT
  clear hV hV1 T1 T2 B1 B2 hb1 CO VH
  go_wp2_with fail
  go_region_with ((go_at_call 98; refine (BH.out _).mono ?_; rintro e w2 ⟨p, g, rfl, hI, hp, hg, hb2⟩))
  have M0 : FrM w p g s (frS vis s runs 0).1 vis w2 := by
    have h1 := Ext.undraw hb2
    refine ⟨by rw [F0.out]; exact hI, HX.out.2.1.under h1 HX.out.2.1.lt, HX.out.1.under h1 HX.out.1.lt, Ext.then_ HX.out.2.2 h1⟩
  have hgw : w.heap.size ≤ g := by have : w1.heap.size ≤ g := hg; omega
  clear hI hp hg hb2 HX BH hsw hsw2 hS1
  go_wp2_with fail
  go_loopw [10, 11, 12, 28] (fun a _ _ i wr => ∃ k : Nat, k ≤ n ∧ i = .int .i64 k ∧ a = .int .i64 (((frS vis s runs k).2 : Nat) : Int) ∧ FrM w p g s (frS vis s runs k).1 vis wr ∧ Hid (∀ j, j < k → frIn vis s runs j = true)) (fun _ _ _ i _ => n - (intOf i).toNat)
  case atStart => exact ⟨0, Nat.zero_le _, rfl, by rw [F0.out]; rfl, M0, fun j h => absurd h (Nat.not_lt_zero _)⟩
  case round =>
    obtain ⟨k, hk, rfl, rfl, hM, hall⟩ := hrel
    clear M0
    have hat := (FA.out k hk hall).2
    by_cases hlt : k < n
    · have hz := hM.ext.size
      have ho := hM.out.lt
      obtain ⟨gA, rfl, hgA, c1⟩ := ints_cell (RH.out wr hM.ext) (k := k) (by rw [HN.out]; exact hlt)
      have N1k := Lib.hid (N1.out k hlt)
      have N2k := Lib.hid (fun h0 => N2.out k h0 hlt)
      have FSk := Lib.hid (FS.out k)
      have FIk := Lib.hid (FI.out k)
      have SU := Lib.hid (fun (h : frIn vis s runs k = true) q (hq : q < k + 1) => (show frIn vis s runs q = true from by
        rcases Nat.lt_succ_iff_lt_or_eq.1 hq with h1 | h1
        · exact hall q h1
        · rw [h1]; exact h))
      have MM := Lib.hid hM
      clear hall hM
      generalize frIn vis s runs k = fk at *
      generalize hst : frS vis s runs k = st at *
      obtain ⟨L, a⟩ := st
      simp only at hat MM FIk ⊢
      clear hst
      generalize runs.getD k 0 = r at *
      have i0 : (0 : Int) ≤ (k : Int) := by omega
      have i1 : (k : Int) < (n : Int) := by omega
      have IN := Lib.hid (fun V => in_any r 0 ((s : Int) * s - (a : Int)) V)
      have w0 : ((s * s : Nat) : Int) - (a : Int) = ((s * s - a : Nat) : Int) := by omega
      have w1' : inB r 0 ((s : Int) * s - (a : Int)) = inB r 0 ((s * s - a : Nat) : Int) := by rw [← w0, Int.natCast_mul]
      rw [w1'] at IN
      rw [w0] at FIk
      have hss2 : (s : Int) * s ≤ 256 := by rw [← Int.natCast_mul]; omega
      have hss3 : (a : Int) ≤ (s : Int) * s := by rw [← Int.natCast_mul]; omega
      clear w1'
      cases hin : inB r 0 ((s * s - a : Nat) : Int)
      · have NO := Lib.hid (N1k.out (by rw [FIk.out, hin]))
        rw [hin] at IN
        have To := MM.out.out
        have c0 := To.cell 0
        have f0 := To.free 0
        have cs := (To.store 0 (.slice none 0 0)).cell 0
        simp at c0 cs
        clear hin To w0
        go_wp2_with (go_at_call 115; refine (IN.out _).mono ?_; rintro e w' ⟨rfl, rfl⟩)
        refine bodyPost_ret (v := .tuple #[.agg #[.slice none 0 0], .bool false]) (by simp [results, Try.results50, go_sem, cs]) rfl (FO.out _ _ NO.out ?_)
        exact MM.out.ext.setCell (p := ⟨w.heap.size, 0, none⟩) (Nat.le_refl _) _
      · rw [hin] at IN
        have hfk : fk = true := by rw [FIk.out, hin]
        have SU1 := Lib.hid (SU.out hfk)
        obtain ⟨r0, r1⟩ := inB_iff.1 hin
        by_cases hr0 : r = 0
        · subst hr0
          have FSk1 : Hid (frS vis s runs (k + 1) = (L, a)) := FSk.out
          by_cases hk0 : 0 < k
          · have NO := Lib.hid (N2k.out hk0 rfl)
            have z1 : (0 : Int) < (k : Int) := by omega
            have To := MM.out.out
            have c0 := To.cell 0
            have f0 := To.free 0
            have cs := (To.store 0 (.slice none 0 0)).cell 0
            simp at c0 cs
            clear hin To w0 hfk FSk SU
            go_wp2_with (go_at_call 115; refine (IN.out _).mono ?_; rintro e w' ⟨rfl, rfl⟩)
            refine bodyPost_ret (v := .tuple #[.agg #[.slice none 0 0], .bool false]) (by simp [results, Try.results50, go_sem, cs]) rfl (FO.out _ _ NO.out ?_)
            exact MM.out.ext.setCell (p := ⟨w.heap.size, 0, none⟩) (Nat.le_refl _) _
          · have z1 : (k : Int) ≤ 0 := by omega
            clear hin w0 hfk FSk SU hk0
            obtain ⟨wo, rfl⟩ : ∃ wo : World, wo = wr := ⟨_, rfl⟩
            go_wp2_with (go_at_call 115; refine (IN.out _).mono ?_; rintro e w' ⟨rfl, rfl⟩)
            go_loopw [10, 50] (fun v i wr => i = .int .i64 0 ∧ v = .int .i64 ((a : Nat) : Int) ∧ FrM w p g s L vis wr) (fun _ _ _ => 0)
            case atStart => exact ⟨rfl, rfl, MM.out⟩
            case round =>
              obtain ⟨rfl, rfl, hM2⟩ := hrel
              have HM3 := Lib.hid hM2
              clear hM2
              go_wp2_with fail
              go_roundw
              case rel => exact ⟨k + 1, by omega, by go_num, by rw [FSk1.out], by rw [FSk1.out]; exact HM3.out, SU1.out⟩
              case measure => simp [intOf]; omega
        · obtain ⟨rn, rfl⟩ := Int.eq_ofNat_of_zero_le r0
          have r2 : a + rn ≤ s * s := by omega
          rw [Int.toNat_natCast] at FSk
          have FSk1 : Hid (frS vis s runs (k + 1) = (fillN vis s L a (odd2 k) rn, a + rn)) := FSk.out
          have z0 : ((rn : Int) == 0) = false := by simpa using hr0
          clear hin w0 hr0 hfk FSk SU
          obtain ⟨wo, rfl⟩ : ∃ wo : World, wo = wr := ⟨_, rfl⟩
          skip
          all_goals
            go_wp2_with (go_at_call 115; refine (IN.out _).mono ?_; rintro e w' ⟨rfl, rfl⟩)
            go_loopw [10, 50] (fun v i wr => ∃ j : Nat, j ≤ rn ∧ i = .int .i64 j ∧ v = .int .i64 ((a + j : Nat) : Int) ∧ FrM w p g s (fillN vis s L a (odd2 k) j) vis wr) (fun _ i _ => rn - (intOf i).toNat)
            case atStart => exact ⟨0, Nat.zero_le _, rfl, rfl, MM.out⟩
            case round =>
              obtain ⟨j, hj, rfl, rfl, hM2⟩ := hrel
              by_cases hjl : j < rn
              · have hv : a + j < vis.length := by rw [VL.out]; omega
                obtain ⟨v0, v1, v2, v3, _⟩ := VA.out (a + j) hv
                obtain ⟨p1, p2⟩ := hM2.vis.spots.2 (a + j) hv
                have NX : Hid (fillN vis s L a (odd2 k) (j + 1) = (fillN vis s L a (odd2 k) j).set (posV s vis[a + j]) (odd2 k)) := by
                  rw [Hid, fillN, List.getD_eq_getElem?_getD, List.getElem?_eq_getElem hv, Option.getD_some]
                have MM2 := Lib.hid hM2
                have vlt := hM2.vis.lt
                generalize vis[a + j] = q at *
                obtain ⟨qx, qy⟩ := q
                simp only at v0 v1 v2 v3 p1 p2 NX
                obtain ⟨qx, rfl⟩ := Int.eq_ofNat_of_zero_le v0
                obtain ⟨qy, rfl⟩ := Int.eq_ofNat_of_zero_le v2
                have hpos : posV s ((qx : Int), (qy : Int)) = qy * s + qx := by
                  unfold posV; simp only; rw [← Int.natCast_mul, ← Int.natCast_add, Int.toNat_natCast]
                rw [hpos] at NX
                have i2 : (0 : Int) ≤ ((a + j : Nat) : Int) := by omega
                have i3 : ((a + j : Nat) : Int) < ((s * s : Nat) : Int) := by omega
                have i4 : a + j < 256 := by omega
                have i5 : ((a + j : Nat) : Int) < (s : Int) * s := by rw [← Int.natCast_mul]; omega
                have S1 := Lib.hid (fun V (hV : FrM w p g s (fillN vis s L a (odd2 k) j) vis V) => (SH.out p g hgw (fillN vis s L a (odd2 k) j) qx qy (odd2 k) V hV (by omega) (by omega)).mono (fun e w' h => (show e = .returned (.tuple #[]) ∧ Hid (FrM w p g s ((fillN vis s L a (odd2 k) j).set (qy * s + qx) (odd2 k)) vis w') from ⟨h.1, h.2⟩)))
                have VC := Lib.hid (fun V L' (hV : FrM w p g s L' vis V) => (show V.cell? ⟨w.heap.size + 1, (a + j) * 2, none⟩ = some (.int .i64 (qx : Int)) ∧ V.cell? ⟨w.heap.size + 1, (a + j) * 2 + 1, none⟩ = some (.int .i64 (qy : Int)) from
                  ⟨(hV.vis.cell _).trans (((MM2.out.vis.cell _).symm).trans p1), (hV.vis.cell _).trans (((MM2.out.vis.cell _).symm).trans p2)⟩))
                have m1 : (k : Int).tmod 2 = (k : Int) % 2 := Int.tmod_eq_emod_of_nonneg (by omega)
                have b1 : ((k : Int) % 2 == 1) = odd2 k := by
                  rw [Bool.eq_iff_iff]; simp [odd2]; omega
                clear hM2 v0 v1 v2 v3 hpos hv
                generalize odd2 k = ob at *
                obtain ⟨aj, haj⟩ : ∃ aj, a + j = aj := ⟨_, rfl⟩
                have HAJ := Lib.hid haj
                rw [haj] at p1 p2 i2 i3 i4 i5 VC ⊢
                clear haj
                go_wp2_with fail
                go_region_held3 (fun w' => w'.cell? ⟨w.heap.size + 1, aj * 2, none⟩ = some (.int .i64 (qx : Int)) ∧ w'.cell? ⟨w.heap.size + 1, aj * 2 + 1, none⟩ = some (.int .i64 (qy : Int)))
                  (first | exact hk2 | go_keep)
                  (first | (go_at_call 101; refine (S1.out _ (MM2.out.drewN 1)).mono ?_; rintro e w' ⟨rfl, hX⟩; have hk2 := VC.out _ _ hX.out))
                have HX2 : Hid (FrM w p g s (fillN vis s L a ob (j + 1)) vis w') := by rw [Hid, NX.out]; exact hX.out
                clear hX hk2 p1 p2
                go_wp2_with fail
                go_roundw
                case rel => exact ⟨j + 1, by omega, by go_num, by have := HAJ.out; rw [← this]; go_num, HX2.out⟩
                case measure => simp [intOf]; omega
              · obtain rfl : j = rn := by omega
                have hM3 : FrM w p g s (frS vis s runs (k + 1)).1 vis wr := by rw [FSk1.out]; exact hM2
                have HM3 := Lib.hid hM3
                clear hM2 hM3
                go_wp2_with fail
                go_roundw
                case rel => exact ⟨k + 1, by omega, by go_num, by rw [FSk1.out], HM3.out, SU1.out⟩
                case measure => simp [intOf]; omega
    · obtain rfl : k = n := by omega
      have HM := Lib.hid hM
      have EN1 := Lib.hid (EN.out hall)
      have To := hM.out
      have ho := hM.out.lt
      clear hM hall
      obtain ⟨L, hL⟩ : ∃ L, (frS vis s runs k).1 = L := ⟨_, rfl⟩
      obtain ⟨a, hA⟩ : ∃ a, (frS vis s runs k).2 = a := ⟨_, rfl⟩
      have HLL := Lib.hid hL
      rw [hL] at HM EN1
      rw [hA] at hat N3 ⊢
      clear hL hA
      by_cases ha : a = s * s
      · have t0 : ((a : Int) != ((s * s : Nat) : Int)) = false := by simp [ha]
        have t1 : ((a : Int) != (s : Int) * s) = false := by rw [← Int.natCast_mul]; exact t0
        have t2 : (s : Int) * s = (a : Int) := by rw [ha, Int.natCast_mul]
        have HT2 := Lib.hid t2
        clear t2 ha
        obtain ⟨wo, rfl⟩ : ∃ wo : World, wo = wr := ⟨_, rfl⟩
        go_wp2_with fail
        refine (AH.out p g L _ HM.out.img).mono ?_
        rintro e w4 ⟨A4, c4, rfl, hown4, hb4⟩
        have HM4 := Lib.hid (HM.out.later hb4)
        have R4 := Lib.hid (Rd.of_own hown4)
        clear hown4 hb4
        go_wp2_with fail
        refine (CH.out _ _ _ _ R4.out).mono ?_
        rintro e w5 ⟨A5, c5, rfl, hown5, hb5⟩
        have HM5 := Lib.hid (HM4.out.later hb5)
        have R5 := Lib.hid (Rd.of_own hown5)
        have hcl := (colR_facts (alB L s s vis)).1
        rw [show (alB L s s vis).length = s * s by rw [alB_length, VL.out]] at hcl
        clear hown5 hb5
        go_wp2_with fail
        refine (EQ.out _ _ _ _ R5.out (RH.out _ HM5.out.ext) (by omega)).mono ?_
        rintro e w6 ⟨rfl, nd, rfl⟩
        rw [← EN1.out]
        have HM6 := Lib.hid (HM5.out.drewN nd)
        have To := HM6.out.out
        have ho := HM6.out.out.lt
        cases hok : ok
        · have c0 := To.cell 0
          have f0 := To.free 0
          have cs := (To.store 0 (.slice none 0 0)).cell 0
          simp at c0 cs
          have HOK := Lib.hid hok
          clear To hok
          go_wp2_with fail
          refine bodyPost_ret (v := .tuple #[.agg #[.slice none 0 0], .bool false]) (by simp [results, Try.results50, go_sem, cs]) rfl (FO.out _ _ HOK.out ?_)
          exact HM6.out.ext.setCell (p := ⟨w.heap.size, 0, none⟩) (Nat.le_refl _) _
        · have HOK := Lib.hid hok
          clear To hok
          go_wp2_with fail
          refine (TL.out p g L _ HM6.out.img).mono ?_
          rintro e w7 ⟨A7, c7, rfl, hown7, hb7⟩
          have hz6 := HM6.out.ext.size
          have To := (HM6.out.later hb7).out
          have B7 := (HM6.out.later hb7).ext
          have c0 := To.cell 0
          have f0 := To.free 0
          have cs := (To.store 0 (.slice A7 s c7)).cell 0
          simp at c0 cs
          have O7 := Lib.hid hown7
          clear To hown7 hb7
          go_wp2_with fail
          refine bodyPost_ret (v := .tuple #[.agg #[.slice A7 s c7], .bool true]) (by simp [results, Try.results50, go_sem, cs]) rfl (YES.out _ _ _ _ HOK.out ?_ ?_)
          · have := O7.out
            rw [← HLL.out] at this
            exact own_base (ownsRow_setCell_below this (a := ⟨w.heap.size, 0, none⟩) ho _) hz6
          · exact B7.setCell (p := ⟨w.heap.size, 0, none⟩) (Nat.le_refl _) _
      · have NO := Lib.hid (N3.out ha)
        have t0 : ((a : Int) != ((s * s : Nat) : Int)) = true := by simp; omega
        have t1 : ((a : Int) != (s : Int) * s) = true := by rw [← Int.natCast_mul]; exact t0
        have c0 := To.cell 0
        have f0 := To.free 0
        have cs := (To.store 0 (.slice none 0 0)).cell 0
        simp at c0 cs
        clear To ha
        go_wp2_with fail
        refine bodyPost_ret (v := .tuple #[.agg #[.slice none 0 0], .bool false]) (by simp [results, Try.results50, go_sem, cs]) rfl (FO.out _ _ NO.out ?_)
        exact HM.out.ext.setCell (p := ⟨w.heap.size, 0, none⟩) (Nat.le_refl _) _
end Go.Proofs.Ytdbelajgndclfaa
