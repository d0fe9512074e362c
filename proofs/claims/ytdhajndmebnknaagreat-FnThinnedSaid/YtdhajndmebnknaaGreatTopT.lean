/- The program's tree of a picture. -/
import Derived.Test.YtdhajndmebnknaaGreatTopW
import Derived.Test.YtdhajndmebnknaaGreatTopG
import Derived.Test.YtdhajndmebnknaaGreatImgOf
namespace Go.Proofs.YtdhajndmebnknaaGreat
open Go.RowKit

theorem enters_framed1T : Enters 66 := enters_of Tryz.func66 (by kernel_rfl) (by kernel_rfl)
set_option maxRecDepth 100000 in
set_option maxHeartbeats 1000000 in
theorem framed1T_any (p g W H t : Nat) (L : List Bool) (x y : Nat) (w : World) (h : Img w p g W H L) (hW : W ≤ 1000) (hH : H ≤ 1000) (hx : x < 1000) (hy : y < 1000) (ht : Blk w t 47 #[.pointer (some ⟨p, 0, none⟩)]) :
    Calls Tryz.prog 66 #[.int .i64 x, .int .i64 y, .pointer (some ⟨t, 0, none⟩)] w fun e w' => e = .returned (.bool (bit L W H ((x : Int) - 1) ((y : Int) - 1))) ∧ ∃ k, w' = w.drewN k := by
  have c0 := ht.cell 0
  simp at c0
  have GK := Lib.hid (get_any p g W H L ((x : Int) - 1) ((y : Int) - 1) w h hW hH)
  clear h
  go_enter Tryz.func66, Tryz.ntmps66
  go_wp2_with fail
  refine GK.out.mono ?_
  rintro e w' ⟨rfl, k, rfl⟩
  go_wp2_with fail
  go_ret
  exact ⟨rfl, _, rfl⟩
set_option maxRecDepth 100000 in
set_option maxHeartbeats 1000000 in
theorem framedT_any (p g W H : Nat) (L : List Bool) (w : World) (h : Img w p g W H L) (hW : W ≤ 100) (hH : H ≤ 100) :
    Calls Tryz.prog 49 #[.pointer (some ⟨p, 0, none⟩)] w fun e w' => ∃ p' g', e = .returned (.pointer (some ⟨p', 0, none⟩)) ∧ Img w' p' g' (W + 2) (H + 2) (padL L W H) ∧ Below w.heap.size w w' := by
  have c0 := h.hdr.cell 0
  have c1 := h.hdr.cell 1
  simp at c0 c1
  have hp := h.hdr.lt
  have M : Hid (∀ V : World, Below w.heap.size w V → Blk V w.heap.size 47 #[.pointer (some ⟨p, 0, none⟩)] → Calls Tryz.prog 65 #[.int .i64 ((W : Int) + 2), .int .i64 ((H : Int) + 2), .func (.func 66) #[] #[.pointer (some ⟨w.heap.size, 0, none⟩)]] V fun e w' => ∃ p g, e = .returned (.pointer (some ⟨p, 0, none⟩)) ∧
      Img w' p g (W + 2) (H + 2) (padL L W H) ∧ V.heap.size ≤ p ∧ V.heap.size ≤ g ∧ Below V.heap.size V w') := by
    intro V hb hB
    have := made_any (W + 2) (H + 2) 66 #[.pointer (some ⟨w.heap.size, 0, none⟩)] (fun i => bit L W H (((i % (W + 2) : Nat) : Int) - 1) (((i / (W + 2) : Nat) : Int) - 1)) V (by omega) (by omega) enters_framed1T (by
      intro x y hx hy wr hwr
      refine (framed1T_any p g W H w.heap.size L x y wr (h.ext (hb.trans (hwr.mono hb.size))) (by omega) (by omega) (by omega) (by omega) (hB.under hwr hB.lt)).mono ?_
      rintro e w' ⟨rfl, k, rfl⟩
      simp only [divT hx, modT hx]
      exact ⟨trivial, Ext.drawN (Ext.refl _) _⟩)
    rw [show ((W + 2 : Nat) : Int) = (W : Int) + 2 from by omega, show ((H + 2 : Nat) : Int) = (H : Int) + 2 from by omega] at this
    exact this
  have hmf : ∀ (fn : Fn) (first cap : Array Value) (w : World), (Instr.makeFunc fn first cap).run Tryz.prog w = .ok (.func fn first cap) w := fun _ _ _ _ => rfl
  have B0 := Blk.made w 47 #[.pointer (some ⟨p, 0, none⟩)]
  have B1 : Below w.heap.size w (w.alloc (.cells #[.pointer (some ⟨p, 0, none⟩)] 47)) := Ext.more (Ext.refl _) _
  have i1 : IntKind.i64.wrap ((W : Int) + 2) = (W : Int) + 2 := IntWalk.i64_in _ (by omega)
  have i2 : IntKind.i64.wrap ((H : Int) + 2) = (H : Int) + 2 := IntWalk.i64_in _ (by omega)
  go_enter Tryz.func49, Tryz.ntmps49
  go_wp2_with fail
  go_region_held3 (fun w' => w'.cell? ⟨w.heap.size, 0, none⟩ = some (.pointer (some ⟨p, 0, none⟩)) ∧ w'.cell? ⟨p, 0, none⟩ = some (.int .i64 W) ∧ w'.cell? ⟨p, 1, none⟩ = some (.int .i64 H))
    (first | ((go_split_ands; refine ⟨?_, ?_, ?_⟩ <;> exact (hb'.cell (p := ⟨_, _, none⟩) (by first | omega | (simp; omega) | simp)).trans (by assumption))) | (simp [go_sem, World.cell?_alloc_past, hp, c0, c1]))
    (first | (go_at_call 65; refine (M.out _ B1.drew B0).mono ?_; rintro e w' ⟨p', g', rfl, hm', hp', hg', hb'⟩))
  go_wp2_with fail
  go_ret
  exact ⟨p', g', rfl, hm', Ext.then_ B1.drew hb'⟩
set_option maxRecDepth 100000 in
set_option maxHeartbeats 4000000 in
theorem treeI_any (p g W H : Nat) (L : List Bool) (w : World) (h : Img w p g W H L) (hW : W ≤ 16) (hH : H ≤ 16) :
    Calls Tryz.prog 56 #[.pointer (some ⟨p, 0, none⟩)] w fun e w' => e = .returned (.tuple #[.string ⟨(treeV L W H).1.toArray⟩, .int .i64 ((treeV L W H).2 : Nat)]) ∧ (treeV L W H).1.length ≤ 700 ∧ (treeV L W H).2 ≤ 400 ∧ Below w.heap.size w w' := by
  have FR := Lib.hid (framedT_any p g W H L w h (by omega) (by omega))
  have OK : okC (padL L W H) (W + 2) (H + 2) false (0, 0) = true := okC_iff.2 ⟨pcF_has L W H, pcF_col L W H⟩
  have HOK := Lib.hid OK
  obtain ⟨R, hR⟩ : ∃ R : Cell → Bool, R = rchB nbF (okC (padL L W H) (W + 2) (H + 2) false) ((W + 2) * (H + 2)) (0, 0) := ⟨_, rfl⟩
  have HR : Hid (∀ z, R z = true ↔ (pcF L W H).Same (0, 0) z) := fun z => by rw [hR]; exact part_iff (c := false) (by omega) (by omega) OK
  have HRB : Hid (bv (rchF nbF (okC (padL L W H) (W + 2) (H + 2) false) ((W + 2) * (H + 2)) (0, 0)) = bs R) := by rw [Hid, bs_bv, hR]; rfl
  have hWH : (W + 2) * (H + 2) ≤ 324 := Nat.le_trans (Nat.mul_le_mul (show W + 2 ≤ 18 by omega) (show H + 2 ≤ 18 by omega)) (by decide)
  have HWH := Lib.hid hWH
  have hmf : ∀ (fn : Fn) (first cap : Array Value) (w : World), (Instr.makeFunc fn first cap).run Tryz.prog w = .ok (.func fn first cap) w := fun _ _ _ _ => rfl
  have hmm := @run_makeMap Tryz.prog
  have TV := Lib.hid (fun n c d (h : (pcF L W H).Nd n none (0, 0) c d) => treeV_is h)
  have CA := Lib.hid (fun s => cnt_all (P := pcF L W H) (s := s))
  clear h OK hR hWH
  go_enter Tryz.func56, Tryz.ntmps56
  go_wp2_with fail
  refine FR.out.mono ?_
  rintro e w1 ⟨p', g', rfl, hI, hb1⟩
  have B2 := Ext.more hb1 (.cells #[.pointer (some ⟨p', 0, none⟩)] 47)
  have X2 := Blk.made w1 47 #[.pointer (some ⟨p', 0, none⟩)]
  have I2 := hI.ext (Ext.more (Ext.refl w1) (.cells #[.pointer (some ⟨p', 0, none⟩)] 47))
  obtain ⟨w2, hw2⟩ : ∃ w2, w1.alloc (.cells #[.pointer (some ⟨p', 0, none⟩)] 47) = w2 := ⟨_, rfl⟩
  rw [hw2] at B2 X2 I2
  have HW2 := Lib.hid hw2
  have EY := Ext.more (Ext.refl w2) (.cells #[.int .i64 0, .int .i64 0] 38)
  have X3 := X2.more (.cells #[.int .i64 0, .int .i64 0] 38)
  have I3 := I2.ext EY
  have B3 := Ext.then_ B2 EY
  have SR := Lib.hid (spread_any nbT_four (by decide) (okB_C (padL L W H) false (by omega) (by omega)) (by have := HWH.out; omega) 0 0 HOK.out w2.heap.size 0 1 70 #[.pointer (some ⟨w1.heap.size, 0, none⟩)] (w2.alloc (.cells #[.int .i64 0, .int .i64 0] 38))
    (cell_new w2 _ _ 0) (cell_new w2 _ _ 1) (by simp) enters_tree1T (fun u v _ _ wx hb => tree1T_any p' g' (W + 2) (H + 2) w1.heap.size (padL L W H) u v wx (I3.ext hb) (X3.under hb X3.lt) (by omega) (by omega)))
  rw [HRB.out] at SR
  have zY : (w2.alloc (.cells #[.int .i64 0, .int .i64 0] 38)).heap.size = w2.heap.size + 1 := by simp
  rw [zY] at SR
  clear hw2 hI hb1 X2 I2 B2 EY
  go_upto_region 2 with fail
  try simp only [HW2.out]
  go_wp2_with fail
  refine SR.out.mono ?_
  rintro e w4 ⟨rfl, hM4, hb4⟩
  rw [← zY] at hb4
  have B4 := Ext.then_ B3 hb4
  have I4 := I3.ext hb4
  have X4 := X3.under hb4 X3.lt
  have z4 := hb4.size
  rw [zY] at z4
  have M5 := MapF.made (kv := spV) (good := spOk) w4
  have E5 := Ext.more (Ext.refl w4) (.map #[] 0)
  have I5 := Lib.hid (I4.ext E5)
  have X5 := Lib.hid (X4.more (.map #[] 0))
  have P5 := Lib.hid (hM4.ext E5)
  have B5 := Ext.then_ B4 E5
  have N5 : Hid (bs (fun z => R z && !(bs R z).isSome) = fun _ => none) := by
    funext z
    cases hz : R z <;> simp [bs, hz]
  have hM5 : MapF spV spOk (w4.alloc (.map #[] 0)) w4.heap.size (bs fun z => R z && !(bs R z).isSome) := by rw [N5.out]; exact M5
  have z5 : (w4.alloc (.map #[] 0)).heap.size = w4.heap.size + 1 := by simp
  have wl := B4.size
  have hml := hM4.lt
  clear hb4 SR B3 B4 I3 X3 I4 X4 hM4 E5 M5 zY
  obtain ⟨w5, hw5⟩ : ∃ w5, w4.alloc (.map #[] 0) = w5 := ⟨_, rfl⟩
  rw [hw5] at I5 X5 P5 B5 hM5 z5
  have HW5 := Lib.hid hw5
  have hM5' := Lib.hid hM5
  have HZ5 := Lib.hid z5
  have zB := B5.size
  clear hw5 hM5 z5
  go_upto_region 4 with fail
  try simp only [HW5.out]
  go_wp2_with (at_range; refine wpList_rangeF spotK _ (by rfl) _ _ (by rfl) Tryz.underlying82 (by rfl) P5.out ?_; intro w6 cnt hrg hb6 hz6)
  go_frame
  have I6 := I5.out.ext hb6
  have X6 := X5.out.under hb6 X5.out.lt
  have M6 := hM5'.out.ext hb6
  have B6 := Ext.then_ B5 hb6
  have xl := X5.out.lt
  have il := I5.out.hdr.lt
  have jl := I5.out.bits.lt
  have z55 : w4.heap.size < w5.heap.size := by rw [HZ5.out]; omega
  clear hb6 hz6 hM5' P5 I5 X5 z4
  go_loopg [7] cnt (fun m _ wx => ∃ left : Cell → Bool, RngF spV spOk wx (w2.heap.size + 1) w5.heap.size (bs R) left m ∧ Img wx p' g' (W + 2) (H + 2) (padL L W H) ∧ Blk wx w1.heap.size 47 #[.pointer (some ⟨p', 0, none⟩)] ∧ MapF spV spOk wx w4.heap.size (bs fun z => R z && !left z) ∧ Below w.heap.size w wx)
  case atStart => exact ⟨_, hrg, I6, X6, M6, B6⟩
  case round =>
    obtain ⟨left, hr, I, X, M, hb⟩ := hrel
    clear hrg I6 X6 M6 B6
    have HI := Lib.hid I
    have HX := Lib.hid X
    have HM := Lib.hid M
    have HB := Lib.hid hb
    have pM := map_ne M I.hdr
    have gM := map_ne M I.bits
    have xM := map_ne M X
    clear I X M hb
    go_wp2_with (at_next; refine wpList_nextF spotK _ (by rfl) _ (by rfl) (by rfl) hr ?_ ?_)
    · intro hl0
      have fe : (fun z => R z && !left z) = R := by
        funext z
        obtain ⟨z1, z2⟩ := z
        rw [hl0 z1 z2]; simp
      have M0 := HM.out
      rw [fe] at M0
      have VI := Lib.hid (visitI_any p' g' (W + 2) (H + 2) (padL L W H) (by omega) (by omega) 400 (by decide) none (0, 0) R R w4.heap.size (w2.heap.size + 1) wr HI.out hr.map M0 (by omega) HR.out (vp_root HR.out) (by have := HWH.out; omega))
      have e0 : (pcI (padL L W H) (W + 2) (H + 2)).col (0, 0) = false := pcF_col L W H
      rw [e0] at VI
      have c0 := HX.out.cell 0
      simp at c0
      clear hr M0 HM fe
      go_wp2_with fail
      refine VI.out.mono ?_
      rintro e w9 ⟨c, d, s, rfl, TA, hM9, hC9⟩
      have e1 := TV.out 400 c d TA.nd
      have e2 := CA.out s
      have e3 : (pcF L W H).W * (pcF L W H).H ≤ 324 := HWH.out
      have e4 := TA.len
      have e5 := TA.dep
      have B9 : Below w.heap.size w w9 := (Below.trans HB.out ((hC9.mono (T := fun b => w.heap.size ≤ b) (fun b hb => by rcases hb with rfl | hb; exact wl; have := HB.out.size; omega)).below (fun k hk => hk) HB.out.size))
      have HE1 := Lib.hid e1
      have HLEN : Hid (c.length ≤ 700 ∧ d ≤ 400) := by
        have : (pcI (padL L W H) (W + 2) (H + 2)).cnt s ≤ 324 := Nat.le_trans e2 e3
        exact ⟨by omega, e5⟩
      clear e1 e2 e3 e4 e5 TA hM9 hC9 VI c0
      go_wp2_with fail
      go_ret2
      exact ⟨by rw [HE1.out]; rfl, by rw [HE1.out]; exact HLEN.out.1, by rw [HE1.out]; exact HLEN.out.2, B9⟩
    · intro a3 a4 v3 w13 cnt3 left4 ha3 hla3 hfa3 hl4 hrg4 hlt4 hg13 hz13 hen3
      have I14 : Img w13 p' g' (W + 2) (H + 2) (padL L W H) := ⟨HI.out.hdr.by_grown hg13 (by simp <;> omega), HI.out.bits.by_grown hg13 (by simp <;> omega), HI.out.len⟩
      have X14 := HX.out.by_grown hg13 (by simp <;> omega)
      have M14 := HM.out.of_block (hg13.block _ HM.out.lt (by simp <;> omega))
      have B14 := HB.out.grown hg13 HB.out.size (fun z hz => by have := Option.some.inj hz; omega)
      have HL4 : Hid (∀ b, left4 b = true ↔ left b = true ∧ b ≠ (a3, a4)) := fun b => by
        obtain ⟨b1, b2⟩ := b
        rw [hl4 b1 b2]
        simp
      have Ra : R (a3, a4) = true := by
        cases h : R (a3, a4) with
        | true => rfl
        | false => simp [bs, h] at hfa3
      have PE : Hid ((fun x => (R x && !left x) || decide (x = (a3, a4))) = fun x => R x && !left4 x) := by
        rw [Hid]
        funext x
        by_cases hx : x = (a3, a4)
        · subst hx
          have h1 : left4 (a3, a4) = false := by
            cases h : left4 (a3, a4) with
            | false => rfl
            | true => exact absurd rfl ((HL4.out _).1 h).2
          simp [h1, Ra]
        · have h1 : left4 x = left x := by
            rw [Bool.eq_iff_iff, HL4.out]
            simp [hx]
          simp [h1, hx]
      have QA3 : Hid (spOk (a3, a4)) := ha3
      have e3 : spV (a3, a4) = .agg #[.int .i64 a3, .int .i64 a4] := rfl
      rw [e3] at hen3 ⊢
      have EX3 := Ext.more (Ext.refl w13) (.cells #[.int .i64 a3, .int .i64 a4] 38)
      have I15 := Lib.hid (I14.ext EX3)
      have X15 := Lib.hid (X14.more (.cells #[.int .i64 a3, .int .i64 a4] 38))
      have M15 := Lib.hid (M14.ext EX3)
      have B15 := Lib.hid (Ext.then_ B14 EX3)
      have R15 := Lib.hid (hrg4.ext EX3)
      have k15 : (w13.alloc (.cells #[.int .i64 a3, .int .i64 a4] 38)).cell? ⟨w13.heap.size, 0, none⟩ = some (.int .i64 a3) := cell_new w13 _ _ 0
      have l15 : (w13.alloc (.cells #[.int .i64 a3, .int .i64 a4] 38)).cell? ⟨w13.heap.size, 1, none⟩ = some (.int .i64 a4) := cell_new w13 _ _ 1
      clear hl4 hla3 hfa3 ha3 Ra hg13 hrg4 e3 I14 X14 M14 B14 hr HI HX HM HB EX3
      go_wp2_with (at_mapUpdate; refine wpList_putF spotK _ (by rfl) _ _ _ _ (by rfl) Tryz.underlying82 (by rfl) M15.out (a3, a4) QA3.out (by rfl) ?_; intro w16 hm16 hg16 hz16)
      have hm16' : MapF spV spOk w16 w4.heap.size (bs fun x => R x && !left4 x) := by
        rw [← PE.out, ← bs_put]
        exact hm16
      have HM16 := Lib.hid hm16'
      have I16 : Hid (Img w16 p' g' (W + 2) (H + 2) (padL L W H)) := ⟨I15.out.hdr.by_grown hg16 (by simp <;> omega), I15.out.bits.by_grown hg16 (by simp <;> omega), I15.out.len⟩
      have X16 := Lib.hid (X15.out.by_grown hg16 (by simp <;> omega))
      have B16 := Lib.hid (B15.out.grown hg16 B15.out.size (fun z hz => by have := Option.some.inj hz; omega))
      have R16 := Lib.hid (R15.out.kept hg16 (by simp <;> omega) (by simp <;> omega))
      clear hm16 hm16' hg16 k15 l15
      go_roundg cnt3
      case measure => exact hlt4
      case rel => exact ⟨left4, R16.out, I16.out, X16.out, HM16.out, B16.out⟩
end Go.Proofs.YtdhajndmebnknaaGreat
