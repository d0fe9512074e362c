/- The law FnIntervals: its walk. -/
import Derived.Test.YtbkgmegpgnmlpaaIvF
import Derived.Test.YtbkgmegpgnmlpaaLawCurves
import Derived.Test.YtbkgmegpgnmlpaaHQ
import Derived.Deep.RegionHeld3
import Derived.Deep.CutRange
import Derived.Deep.CutBlock
import Derived.Deep.DeepCutAuto
namespace Go.Proofs.Ytbkgmegpgnmlpaa
open Go.RowKit

/-- A part, read out of rows. -/
theorem rows_part {w : World} {A : Option Addr} {P : List (Int × Int)} (h : MatRd w A (prR P)) {k : Nat} (hk : k < P.length) :
    ∃ g gr cy, A = some ⟨g, 0, none⟩ ∧ g < w.heap.size ∧ w.cell? ⟨g, k, none⟩ = some (.slice (some ⟨gr, 0, none⟩) 2 cy) ∧ gr < w.heap.size ∧ w.cell? ⟨gr, 0, none⟩ = some (.int .i64 (gp P k).1) ∧ w.cell? ⟨gr, 1, none⟩ = some (.int .i64 (gp P k).2) := by
  have hk' : k < (prR P).length := by rw [prR_len]; exact hk
  obtain ⟨g, rfl, hg, hc⟩ := h (by omega)
  obtain ⟨Ai, ci, h1, h2⟩ := hc k hk'
  have e : (prR P)[k]'hk' = [(gp P k).1, (gp P k).2] := by rw [prR_at hk, gp, List.getD_eq_getElem?_getD, List.getElem?_eq_getElem hk]; rfl
  rw [e] at h1 h2
  obtain ⟨gr, rfl, hgr, hcr⟩ := h2 (by simp [ints])
  exact ⟨g, gr, ci, rfl, hg, h1, hgr, hcr 0 (by simp [ints]), hcr 1 (by simp [ints])⟩
set_option maxRecDepth 100000 in
set_option maxHeartbeats 4000000 in
theorem lawIvs_any (A B : Option Addr) (n cA m cB : Nat) (l1 l2 : List Int) (w : World) (hA : BytesAt w A n l1) (hn : n ≤ maxLen) (hB : BytesAt w B m l2) (hm : m ≤ maxLen) :
    Calls Try.prog 12 #[.slice A n cA, .slice B m cB] w fun e w' => e = .returned (.bool true) ∧ Below w.heap.size w w' := by
  have LH := Lib.hid (fun W => long_any A B n cA m cB hn hm W)
  generalize (decide (48 < n) || decide (48 < m)) = b at LH
  cases b
  case true =>
    clear hA hB
    go_enter Try.func12, Try.ntmps12
    go_wp2_with fail
    refine (LH.out _).mono ?_
    rintro e w' ⟨rfl, rfl⟩
    go_wp2_with fail
    go_ret
    exact ⟨rfl, Ext.refl _⟩
  have A1 := Lib.hid (bAt_any A l1 n cA 0 4 w hA hn (by decide) (by decide) (by decide))
  have A2 := Lib.hid (bAt_any A l1 n cA 1 5 w hA hn (by decide) (by decide) (by decide))
  have bc := atI_bd (l := l1) 0 (n := 4) (by decide)
  have bo := atI_bd (l := l1) 1 (n := 5) (by decide)
  generalize atI l1 0 4 = c at A1 bc
  generalize atI l1 1 5 = o at A2 bo
  obtain ⟨hc0, hc3⟩ := bc
  obtain ⟨h0, h4⟩ := bo
  have hc3' : c ≤ 3 := by omega
  have h4' : o ≤ 4 := by omega
  have hok : Hid (curveOkB c o = true) := curveOk_iff.2 ⟨⟨hc0, hc3'⟩, h0, h4'⟩
  obtain ⟨s, hs⟩ := Int.eq_ofNat_of_zero_le (show 0 ≤ side o by have := side_pos h0 h4'; omega)
  have hS := side_wrap h0 h4'
  have hS1 := side_pos h0 h4'
  have hS2 := side_le h0 h4'
  rw [hs] at hS hS1 hS2
  have hss : (s : Int) * s ≤ 256 := by
    have h1 : (s : Int) * s ≤ 16 * s := Int.mul_le_mul_of_nonneg_right (by omega) (by omega)
    omega
  have hss1 : 1 ≤ (s : Int) * s := by
    have h1 : 1 * 1 ≤ (s : Int) * s := Int.mul_le_mul hS1 hS1 (by omega) (by omega)
    omega
  have AT := Lib.hid (fun (i : Nat) (x : Int) V (hb : Below w.heap.size w V) (hi : i ≤ 1000) (h1 : 1 ≤ x) (h2 : x ≤ 100000) => bAt_any B l2 m cB i x V (hB.ext hb) hm hi h1 h2)
  have b0 := atI_bd (l := l2) 0 (n := s) hS1
  have b1 := atI_bd (l := l2) 1 (n := s) hS1
  have T0 := Lib.hid (fun V hb => AT.out 0 s V hb (by decide) hS1 (by omega))
  have T1 := Lib.hid (fun V hb => AT.out 1 s V hb (by decide) hS1 (by omega))
  generalize atI l2 0 s = fx at *
  generalize atI l2 1 s = fy at *
  have b2 := atI_bd (l := l2) 2 (n := (s : Int) - fx) (by omega)
  have b3 := atI_bd (l := l2) 3 (n := (s : Int) - fy) (by omega)
  have T2 := Lib.hid (fun V hb => AT.out 2 ((s : Int) - fx) V hb (by decide) (by omega) (by omega))
  have T3 := Lib.hid (fun V hb => AT.out 3 ((s : Int) - fy) V hb (by decide) (by omega) (by omega))
  generalize atI l2 2 ((s : Int) - fx) = dx at *
  generalize atI l2 3 ((s : Int) - fy) = dy at *
  have b4 := atI_bd (l := l2) 4 (n := (s : Int) * s) hss1
  have T4 := Lib.hid (fun V hb => AT.out 4 ((s : Int) * s) V hb (by decide) hss1 (by omega))
  generalize atI l2 4 ((s : Int) * s) = ai at *
  obtain ⟨a, rfl⟩ := Int.eq_ofNat_of_zero_le b4.1
  have e2 : IntKind.i64.wrap (fx + dx) = fx + dx := IntWalk.i64_in _ (by omega)
  have e3 : IntKind.i64.wrap (fy + dy) = fy + dy := IntWalk.i64_in _ (by omega)
  have e4 : IntKind.i64.wrap ((s : Int) - fx) = (s : Int) - fx := IntWalk.i64_in _ (by omega)
  have e5 : IntKind.i64.wrap ((s : Int) - fy) = (s : Int) - fy := IntWalk.i64_in _ (by omega)
  obtain ⟨w1, hw1⟩ : ∃ w1, w.alloc (.cells #[.int .i64 fx, .int .i64 fy] 29) = w1 := ⟨_, rfl⟩
  have F1 : Blk w1 w.heap.size 29 #[.int .i64 fx, .int .i64 fy] := by rw [← hw1]; exact Blk.made w _ _
  have B1 := (by rw [← hw1]; exact Ext.more (Ext.refl _) _ : Below w.heap.size w w1)
  have k0 := F1.cell 0
  have k1 := F1.cell 1
  simp at k0 k1
  have lf := F1.lt
  have z1 : w.heap.size ≤ w1.heap.size := B1.size
  have hbox : boxB o (fx, fy) (fx + dx, fy + dy) = true := by rw [boxB_iff, hs]; simp only; omega
  obtain ⟨N, hN⟩ : ∃ N, s * s = N := ⟨_, rfl⟩
  have hNI : (s : Int) * s = (N : Int) := by rw [← hN]; exact (Int.natCast_mul s s).symm
  have haN : a < N := by omega
  have hN2 : N ≤ 256 := by omega
  have hN1 : 1 ≤ N := by omega
  have V0 := Lib.hid (fun V => intervalsOf_any c o fx fy (fx + dx) (fy + dy) V)
  have V1 := Lib.hid (fun V => nextInBox_any c o fx fy (fx + dx) (fy + dy) a V)
  have V2 := Lib.hid (fun V => box_any o fx fy (fx + dx) (fy + dy) V)
  have V3 := Lib.hid (fun V => iszI_any c o 1 1 V)
  have V4 := Lib.hid (fun V => iszI_any c o s s V)
  have SI := Lib.hid (fun (k : Nat) (hk : k < s * s) W => spot_at_in (c := c) hok.out hs k hk W)
  rw [(isz_one hc0 hc3' h0 h4' hs).1, (isz_one hc0 hc3' h0 h4' hs).2] at V3
  rw [(isz_whole hc0 hc3' h0 h4' hs).1, (isz_whole hc0 hc3' h0 h4' hs).2] at V4
  have iok : ivOk c o (fx, fy) (fx + dx, fy + dy) = true := by rw [ivOk, hok.out, hbox]; rfl
  have ep : ivP c o (fx, fy) (fx + dx, fy + dy) = spTo (visTo c o s s) (fx, fy) (fx + dx, fy + dy) N := by rw [ivP, if_pos iok, hs, ← hN]; rfl
  have en : nxV c o (fx, fy) (fx + dx, fy + dy) a = nxS (visTo c o s s) (fx, fy) (fx + dx, fy + dy) (N - a) a := by
    have : nxOk c o (fx, fy) (fx + dx, fy + dy) a = true := by rw [nxOk, iok, Bool.true_and, inB_iff, hs]; omega
    rw [nxV, if_pos this, hs, ← hN]; rfl
  rw [ep, iok] at V0
  rw [en] at V1
  rw [hbox] at V2
  have PF := Lib.hid (spTo_facts (visTo c o s s) (fx, fy) (fx + dx, fy + dy) N)
  have PLE := spTo_le (visTo c o s s) (fx, fy) (fx + dx, fy + dy) N
  have NS := Lib.hid (nxS_spec (visTo c o s s) (fx, fy) (fx + dx, fy + dy) (N - a) a)
  have hNa : Hid (a + (N - a) = N) := by rw [Hid]; omega
  rw [hN] at SI
  rw [hNI] at V3 T4 hss hss1
  have HNI := Lib.hid hNI
  generalize spTo (visTo c o s s) (fx, fy) (fx + dx, fy + dy) N = P at *
  generalize nxS (visTo c o s s) (fx, fy) (fx + dx, fy + dy) (N - a) a = R at *
  generalize visTo c o s s = V at *
  obtain ⟨R1, R2⟩ := R
  simp only at V1 NS
  clear hA hB AT hs hN ep en iok hbox hNI
  go_enter Try.func12, Try.ntmps12
  go_wp2_with fail
  refine (LH.out _).mono ?_
  rintro e w' ⟨rfl, rfl⟩
  go_wp2_with fail
  refine (A1.out).mono ?_
  rintro e w' ⟨rfl, rfl⟩
  go_wp2_with fail
  refine (A2.out).mono ?_
  rintro e w' ⟨rfl, rfl⟩
  go_wp2_with fail
  refine (T0.out _ (Ext.refl _)).mono ?_
  rintro e w' ⟨rfl, rfl⟩
  go_wp2_with fail
  refine (T1.out _ (Ext.refl _)).mono ?_
  rintro e w' ⟨rfl, rfl⟩
  go_upto_region 7 with fail
  try simp only [hw1]
  go_cut [9] (fun s9 wx => ∃ b9 : Nat, s9 = .pointer (some ⟨b9, 0, none⟩) ∧ Blk wx b9 29 #[.int .i64 (fx + dx), .int .i64 (fy + dy)] ∧ Below w1.heap.size w1 wx)
  case first =>
    go_region_held3 (fun w' => w'.cell? ⟨w.heap.size, 0, none⟩ = some (.int .i64 fx) ∧ w'.cell? ⟨w.heap.size, 1, none⟩ = some (.int .i64 fy))
      (go_keep)
      (first
        | (go_at_call_of 15 (Value.int .i64 2); refine (T2.out _ (by first | exact Ext.draw B1 | exact Ext.more (Ext.draw B1) _ | exact Ext.draw (Ext.more B1 _))).mono ?_; rintro e w2 ⟨rfl, rfl⟩)
        | (go_at_call_of 15 (Value.int .i64 3); refine (T3.out _ (by first | exact Ext.draw B1 | exact Ext.more (Ext.draw B1) _ | exact Ext.draw (Ext.more B1 _))).mono ?_; rintro e w3 ⟨rfl, rfl⟩))
    all_goals
      go_wp2_with fail
      go_meet
      exact ⟨w1.heap.size, rfl, Blk.made w1 _ _, Ext.draw (Ext.more (Ext.refl _) _)⟩
  case rest =>
    obtain ⟨b9, rfl, F2, hB9⟩ := hcut
    have F1c := F1.under hB9 lf
    have B9 := Ext.then_ B1 hB9
    clear k0 k1 F1
    have GX := Lib.hid (fun U (h : Below wc.heap.size wc U) => And.intro (F1c.under h F1c.lt) (F2.under h F2.lt))
    have k0 := F1c.cell 0
    have k1 := F1c.cell 1
    have k2 := F2.cell 0
    have k3 := F2.cell 1
    simp at k0 k1 k2 k3
    clear F1c F2 lf z1 B1 hB9
    go_wp2_with fail
    refine (V0.out _).mono ?_
    rintro e w3 ⟨Aq, cq, vsq, rfl, hM, hb3⟩
    have HM := Lib.hid hM.rd
    have C0 := Ext.then_ B9 hb3
    have k4 := (GX.out _ hb3).1.cell 0
    have k5 := (GX.out _ hb3).1.cell 1
    have k6 := (GX.out _ hb3).2.cell 0
    have k7 := (GX.out _ hb3).2.cell 1
    simp at k4 k5 k6 k7
    have e6 : (s : Int) * s = (N : Int) := HNI.out
    clear hM k0 k1 k2 k3
    go_wp2_with fail
    refine (T4.out _ C0).mono ?_
    rintro e w' ⟨rfl, rfl⟩
    go_wp2_with fail
    refine (V1.out _).mono ?_
    rintro e w4 ⟨rfl, hb4⟩
    have D4 := Ext.then_ hb3 hb4
    clear k4 k5 k6 k7
    have k0 := (GX.out _ D4).1.cell 0
    have k1 := (GX.out _ D4).1.cell 1
    have k2 := (GX.out _ D4).2.cell 0
    have k3 := (GX.out _ D4).2.cell 1
    simp at k0 k1 k2 k3
    go_wp2_with fail
    refine (V2.out _).mono ?_
    rintro e w5 ⟨rfl, hb5⟩
    have D5 := Ext.then_ D4 hb5
    have HM5 := Lib.hid (HM.out.ext (Ext.then_ hb4 hb5))
    clear k0 k1 k2 k3 HM hb3 hb4 hb5 D4 C0
    obtain ⟨pn, hpn⟩ : ∃ pn, P.length = pn := ⟨_, rfl⟩
    have HPN := Lib.hid hpn
    rw [hpn] at PLE ⊢
    clear hpn
    go_wp2_with fail
    go_loopw [15, 16, 17, 18, 19] (fun vk vn _ _ _ wr => ∃ q k : Nat, q ≤ N ∧ vn = .int .i64 q ∧ vk = .int .i64 k ∧ k ≤ pn ∧ Hid (∀ i, i < k → (gp P i).2 < q) ∧ Below w5.heap.size w5 wr) (fun _ vn _ _ _ _ => N - (intOf vn).toNat)
    case atStart => exact ⟨0, 0, Nat.zero_le _, rfl, rfl, Nat.zero_le _, (fun i h => absurd h (Nat.not_lt_zero _)), Ext.refl _⟩
    case round =>
      obtain ⟨q, k, hq, rfl, rfl, hk, hki, hb⟩ := hrel
      by_cases hlt : q < N
      · have t0 : (q : Int) < (N : Int) := by omega
        have HMr := HM5.out.ext hb
        obtain ⟨W, hW⟩ : ∃ W : World, wr = W := ⟨_, rfl⟩
        rw [hW] at HMr hb
        rw [hW]
        clear hW
        have HMW := Lib.hid HMr
        clear HMr
        go_upto_block 2 with fail
        go_cut [15] (fun s15 wx => ∃ k : Nat, s15 = .int .i64 k ∧ k ≤ pn ∧ Hid (∀ i, i < k → (gp P i).2 < q) ∧ Hid (k = P.length ∨ k < P.length ∧ (q : Int) ≤ (gp P k).2) ∧ wx = W)
        case first =>
          clear LH A1 A2 T0 T1 T2 T3 T4 V0 V1 V2 V3 V4 SI NS hNa HNI GX HM5
          as_aux_lemma =>
            go_wp2_with fail
            go_loop [15] (fun vk => ∃ k : Nat, vk = .int .i64 k ∧ k ≤ pn ∧ Hid (∀ i, i < k → (gp P i).2 < q)) (fun vk => pn - (intOf vk).toNat)
            case atStart => exact ⟨k, rfl, hk, hki⟩
            case round =>
              obtain ⟨k, rfl, hk, hki⟩ := hrel
              by_cases hkp : k < pn
              · obtain ⟨g, gr, cy, e9, lg, c1, lgr, c2, c3⟩ := rows_part HMW.out (show k < P.length by rw [HPN.out]; exact hkp)
                cases e9
                have i0 : (0 : Int) ≤ (k : Int) := by omega
                have i1 : (k : Int) < (pn : Int) := by omega
                by_cases hkq : (gp P k).2 < q
                · have HKN : Hid (∀ i, i < k + 1 → (gp P i).2 < q) := fun i hi => by
                    rcases Nat.lt_succ_iff_lt_or_eq.1 hi with h | h
                    · exact hki.out i h
                    · rw [h]; exact hkq
                  generalize (gp P k).2 = y at c3 hkq
                  go_wp2_with fail
                  go_round
                  case rel => exact ⟨k + 1, by go_num, by omega, HKN⟩
                  case measure => simp [intOf]; omega
                · have HKE : Hid (k = P.length ∨ k < P.length ∧ (q : Int) ≤ (gp P k).2) := .inr ⟨by rw [HPN.out]; exact hkp, by omega⟩
                  generalize hy : (gp P k).2 = y at c3 hkq
                  clear hy
                  go_wp2_with fail
                  go_meet
                  exact ⟨k, rfl, hk, hki, HKE, rfl⟩
              · have i1 : ¬ (k : Int) < (pn : Int) := by omega
                have HKE : Hid (k = P.length ∨ k < P.length ∧ (q : Int) ≤ (gp P k).2) := .inl (by rw [HPN.out]; omega)
                go_wp2_with fail
                go_meet
                exact ⟨k, rfl, hk, hki, HKE, rfl⟩
        case rest =>
            obtain ⟨k, rfl, hk, hki, HKE, rfl⟩ := hcut
            have INQ := Lib.hid (iv_in PF.out hlt hki.out HKE.out)
            have SQ := Lib.hid (SI.out q hlt)
            go_wp2_with fail
            refine (SQ.out _).mono ?_
            rintro e w6 ⟨rfl, hb6⟩
            have E6 := Ext.then_ hb hb6
            have HNF : Hid (R2 = true → ∃ r : Nat, R1 = r ∧ a ≤ r ∧ (inBx (fx, fy) (fx + dx, fy + dy) (gp V q) = true → a ≤ q → r ≤ q) ∧ (r = q → inBx (fx, fy) (fx + dx, fy + dy) (gp V q) = true)) := fun h => by
              obtain ⟨r, er, ra, rb, rc, rd⟩ := NS.out.1 h
              refine ⟨r, er, ra, fun hi ha => ?_, fun e => by rw [← e]; exact rc⟩
              by_cases hrq : r ≤ q
              · exact hrq
              · have := rd q ha (by omega)
                rw [hi] at this; cases this
            have HNG : Hid (R2 = false → inBx (fx, fy) (fx + dx, fy + dy) (gp V q) = true → ¬ a ≤ q) := fun h hi ha => by
              have := (NS.out.2 h).2 q ha (by have := hNa.out; omega)
              rw [hi] at this; cases this
            generalize gp V q = p at *
            obtain ⟨px, py⟩ := p
            have EB : Hid (inBx (fx, fy) (fx + dx, fy + dy) (px, py) = ((decide (fx ≤ px) && decide (px ≤ fx + dx)) && (decide (fy ≤ py) && decide (py ≤ fy + dy)))) := rfl
            generalize inBx (fx, fy) (fx + dx, fy + dy) (px, py) = inb at *
            obtain ⟨w7, hw7⟩ : ∃ w7, w6.alloc (.cells #[.int .i64 px, .int .i64 py] 29) = w7 := ⟨_, rfl⟩
            have F7 : Blk w7 w6.heap.size 29 #[.int .i64 px, .int .i64 py] := by rw [← hw7]; exact Blk.made w6 _ _
            have B67 : Below w6.heap.size w6 w7 := by rw [← hw7]; exact Ext.more (Ext.refl _) _
            have E7 := Ext.then_ E6 B67
            have GX7 := GX.out _ (Ext.then_ D5 E7)
            have k0 := GX7.1.cell 0
            have k1 := GX7.1.cell 1
            have k2 := GX7.2.cell 0
            have k3 := GX7.2.cell 1
            have k4 := F7.cell 0
            have k5 := F7.cell 1
            simp at k0 k1 k2 k3 k4 k5
            have HM7 := Lib.hid (HMW.out.ext (Ext.then_ hb6 B67))
            have HW7 := Lib.hid hw7
            clear F7 B67 E6 GX7 hb6 hw7
            go_upto_region 20 with fail
            try simp only [HW7.out]
            go_cut [19] (fun s19 wx => s19 = .bool inb ∧ wx = w7)
            case first =>
              have EC : Hid ((¬ fx ≤ px ∧ inb = false) ∨ (fx ≤ px ∧ ((¬ px ≤ fx + dx ∧ inb = false) ∨ (px ≤ fx + dx ∧ ((¬ fy ≤ py ∧ inb = false) ∨ (fy ≤ py ∧ ((¬ py ≤ fy + dy ∧ inb = false) ∨ (py ≤ fy + dy ∧ inb = true)))))))) := by
                rw [Hid, EB.out]
                by_cases q1 : fx ≤ px
                · by_cases q2 : px ≤ fx + dx
                  · by_cases q3 : fy ≤ py
                    · by_cases q4 : py ≤ fy + dy <;> simp [q1, q2, q3, q4]
                    · simp [q1, q2, q3]
                  · simp [q1, q2]
                · simp [q1]
              rcases EC.out with ⟨q1, r9⟩ | ⟨q1, ⟨q2, r9⟩ | ⟨q2, ⟨q3, r9⟩ | ⟨q3, ⟨q4, r9⟩ | ⟨q4, r9⟩⟩⟩⟩
              all_goals
                clear EC EB
                subst r9
                as_aux_lemma =>
                  go_wp2_with fail
                  go_meet
                  exact ⟨rfl, rfl⟩
            case rest =>
              obtain ⟨rfl, rfl⟩ := hcut
              clear k0 k1 k2 k3 k4 k5 EB
              go_upto_region 21 with fail
              go_cut [196] (fun s196 wx => s196 = .bool false ∧ Below w5.heap.size w5 wx)
              case first =>
                clear GX HM5 HMW HW7 LH A1 A2 T0 T1 T2 T3 T4 V0 V1 V2 V3 V4 SI PF NS hNa HNI SQ hki D5 B9 hb b0 b1 b2 b3 b4 e2 e3 e4 e5 e6 hss hss1 hS hS1 hS2 hN1 hc0 hc3 h0 h4 hc3' h4' haN
                cases inb
                · have hz := INQ.out
                  clear INQ
                  by_cases hkp : k < pn
                  · obtain ⟨g', gr', cy', e9, lg', d1, lgr', d2, d3⟩ := rows_part HM7.out (show k < P.length by rw [HPN.out]; exact hkp)
                    cases e9
                    have ht : ¬ (gp P k).1 ≤ q := by intro h; rw [HPN.out] at hz; simp [hkp, h] at hz
                    have j0 : (0 : Int) ≤ (k : Int) := by omega
                    have j1 : (k : Int) < (pn : Int) := by omega
                    clear hz HKE
                    generalize (gp P k).1 = y1 at *
                    cases R2
                    · go_wp2_with fail
                      go_meet
                      exact ⟨rfl, E7⟩
                    · obtain ⟨r, rfl, ra, rb, rc⟩ := HNF.out rfl
                      have rq : ((r : Int) == (q : Int)) = false := by
                        simp
                        intro h
                        have := rc (by omega)
                        cases this
                      clear rb rc
                      as_aux_lemma =>
                        go_wp2_with fail
                        go_meet
                        exact ⟨rfl, E7⟩
                  · have j1 : ¬ (k : Int) < (pn : Int) := by omega
                    clear hz HKE
                    cases R2
                    · go_wp2_with fail
                      go_meet
                      exact ⟨rfl, E7⟩
                    · obtain ⟨r, rfl, ra, rb, rc⟩ := HNF.out rfl
                      have rq : ((r : Int) == (q : Int)) = false := by
                        simp
                        intro h
                        have := rc (by omega)
                        cases this
                      clear rb rc
                      as_aux_lemma =>
                        go_wp2_with fail
                        go_meet
                        exact ⟨rfl, E7⟩
                · have hz := INQ.out
                  rw [HPN.out] at hz
                  have hz2 : k < pn ∧ (gp P k).1 ≤ q := by simpa using hz.symm
                  have hkp := hz2.1
                  have ht := hz2.2
                  obtain ⟨g', gr', cy', e9, lg', d1, lgr', d2, d3⟩ := rows_part HM7.out (show k < P.length by rw [HPN.out]; exact hkp)
                  cases e9
                  have j0 : (0 : Int) ≤ (k : Int) := by omega
                  have j1 : (k : Int) < (pn : Int) := by omega
                  clear hz hz2 HKE INQ
                  generalize (gp P k).1 = y1 at *
                  by_cases haq : a ≤ q
                  · cases R2
                    · exact absurd haq (HNG.out rfl rfl)
                    · obtain ⟨r, rfl, ra, rb, rc⟩ := HNF.out rfl
                      have rle := rb rfl haq
                      have ha2 : (a : Int) ≤ (q : Int) := by omega
                      have hr2 : ¬ (q : Int) < (r : Int) := by omega
                      clear rb rc
                      by_cases e : r = q
                      · have rq : ((r : Int) == (q : Int)) = true := by simp [e]
                        clear e
                        as_aux_lemma =>
                          go_wp2_with fail
                          go_meet
                          exact ⟨rfl, E7⟩
                      · have rq : ((r : Int) == (q : Int)) = false := by simp; omega
                        as_aux_lemma =>
                          go_wp2_with fail
                          go_meet
                          exact ⟨rfl, E7⟩
                  · have ha2 : ¬ (a : Int) ≤ (q : Int) := by omega
                    cases R2
                    · go_wp2_with fail
                      go_meet
                      exact ⟨rfl, E7⟩
                    · obtain ⟨r, rfl, ra, rb, rc⟩ := HNF.out rfl
                      have rq : ((r : Int) == (q : Int)) = false := by simp; omega
                      clear rb rc
                      as_aux_lemma =>
                        go_wp2_with fail
                        go_meet
                        exact ⟨rfl, E7⟩
              case rest =>
                obtain ⟨rfl, E8⟩ := hcut
                have HK2 : Hid (∀ i, i < k → (gp P i).2 < ((q + 1 : Nat) : Int)) := fun i hi => by have := hki.out i hi; omega
                go_wp2_with fail
                go_roundw
                case rel => exact ⟨q + 1, k, by omega, by go_num, rfl, hk, HK2, E8⟩
                case measure => simp [intOf]; omega
      · obtain rfl : q = N := by omega
        as_aux_lemma =>
          go_wp2_with fail
          go_loopw [20] (fun v wz => ∃ j : Nat, (j + 1 ≤ pn ∨ j = 0) ∧ v = .int .i64 ((j : Int) + 1) ∧ Below w5.heap.size w5 wz) (fun v _ => pn + 1 - (intOf v).toNat)
          case atStart => exact ⟨0, .inr rfl, rfl, hb⟩
          case round =>
            obtain ⟨j, hj, rfl, hbz⟩ := hrel
            by_cases hip : j + 1 < pn
            · have HMz := HM5.out.ext hbz
              obtain ⟨g, gr, cy, e9, lg, c1, lgr, c2, c3⟩ := rows_part HMz (show j < P.length by rw [HPN.out]; omega)
              cases e9
              obtain ⟨g', gr', cy', e9, lg', c4, lgr', c5, c6⟩ := rows_part HMz (show j + 1 < P.length by rw [HPN.out]; exact hip)
              cases e9
              have hg := PF.out.gaps j (by rw [HPN.out]; exact hip)
              have he := PF.out.ends j (by rw [HPN.out]; omega)
              generalize (gp P j).2 = x1 at *
              generalize (gp P (j + 1)).1 = y1 at *
              have i0 : (0 : Int) ≤ (j : Int) := by omega
              have i1 : (j : Int) < (pn : Int) := by omega
              have i2 : (0 : Int) ≤ (j : Int) + 1 := by omega
              have i3 : (j : Int) + 1 < (pn : Int) := by omega
              have i4 : IntKind.i64.wrap (j : Int) = j := IntWalk.i64_in _ (by omega)
              have i5 : IntKind.i64.wrap (x1 + 1) = x1 + 1 := IntWalk.i64_in _ (by omega)
              have i6 : ¬ y1 ≤ x1 + 1 := by omega
              clear HMz hj
              go_wp2_with fail
              refine wp_region_held_quiet (fun U => Below wr.heap.size wr U) (by kernel_rfl) (by kernel_rfl) (Ext.refl _).drew ?_
              have ne : Nonempty (HeldW (fun U => Below wr.heap.size wr U)) := ⟨⟨wr, Ext.refl _⟩⟩
              have v0 : ∀ i : HeldW (fun U => Below wr.heap.size wr U), i.w.cell? ⟨g, j, none⟩ = _ := fun i => (i.h.cell (p := ⟨g, j, none⟩) lg).trans c1
              have v1 : ∀ i : HeldW (fun U => Below wr.heap.size wr U), i.w.cell? ⟨g, j + 1, none⟩ = _ := fun i => (i.h.cell (p := ⟨g, j + 1, none⟩) lg).trans c4
              have v2 : ∀ i : HeldW (fun U => Below wr.heap.size wr U), i.w.cell? ⟨gr, 1, none⟩ = _ := fun i => (i.h.cell (p := ⟨gr, 1, none⟩) lgr).trans c3
              have v3 : ∀ i : HeldW (fun U => Below wr.heap.size wr U), i.w.cell? ⟨gr', 0, none⟩ = _ := fun i => (i.h.cell (p := ⟨gr', 0, none⟩) lgr').trans c5
              repeat (go_big_quiet_step (fail))
              refine wpQuiet_nil ?_
              intro w9 hw'
              obtain ⟨⟨_, hb9⟩, rfl⟩ := hw'
              clear ne v0 v1 v2 v3
              have HB := Ext.then_ hbz hb9
              go_wp2_with fail
              go_roundw
              case rel => exact ⟨j + 1, .inl (by omega), by go_num, HB⟩
              case measure => simp [intOf]; omega
            · have i6 : ¬ (j : Int) + 1 < (pn : Int) := by omega
              clear hj
              go_wp2_with fail
              refine (V3.out _).mono ?_
              rintro e w8 ⟨rfl, hb8⟩
              go_wp2_with fail
              refine (V4.out _).mono ?_
              rintro e w9 ⟨rfl, hb9⟩
              have HB := Ext.then_ B9 (Ext.then_ D5 (Ext.then_ hbz (Ext.then_ hb8 hb9)))
              have n1 : ((q : Int) == (q : Int)) = true := by simp
              cases R2
              · go_wp2_with fail
                go_ret
                exact ⟨rfl, HB⟩
              · obtain ⟨r, er, ra, -⟩ := NS.out.1 rfl
                subst er
                have n2 : (a : Int) ≤ (r : Int) := by omega
                go_wp2_with fail
                go_ret
                exact ⟨rfl, HB⟩
end Go.Proofs.Ytbkgmegpgnmlpaa
