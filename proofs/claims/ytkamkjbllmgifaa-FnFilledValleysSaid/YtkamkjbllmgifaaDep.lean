/- The least height to the edge at a spot: on both sides. The depth at a pixel: on both sides. -/
import Derived.Test.YtkamkjbllmgifaaLevB
namespace Go.Proofs.Ytkamkjbllmgifaa
open Go.RowKit

end Go.Proofs.Ytkamkjbllmgifaa

namespace Go.Proofs.Ytkamkjbllmgifaa
open Go.RowKit

/-- The least height to a lesser number among the first k places; -1. -/
def depTo (O G : Nat → Int) (a : Nat) : Nat → Int
  | 0 => -1
  | k + 1 => if G k < G a ∧ (depTo O G a k < 0 ∨ O k < depTo O G a k) then O k else depTo O G a k
theorem depTo_congr {O P G : Nat → Int} {a : Nat} : ∀ k, (∀ i, i < k → O i = P i) → depTo O G a k = depTo P G a k := by
  intro k
  induction k with
  | zero => intro _; rfl
  | succ k ih => intro h; rw [depTo, depTo, ih (fun i hi => h i (by omega)), h k (by omega)]
theorem depTo_bd {O G : Nat → Int} {a n : Nat} (h : ∀ i, i < n → 0 ≤ O i ∧ O i ≤ 100) : ∀ k, k ≤ n → -1 ≤ depTo O G a k ∧ depTo O G a k ≤ 100 := by
  intro k
  induction k with
  | zero => intro _; simp [depTo]
  | succ k ih =>
    intro hk
    have h1 := ih (by omega)
    have h2 := h k (by omega)
    rw [depTo]
    split <;> omega
noncomputable def depRaw (rows : List (List Int)) (a : Nat) : Int := depTo (passAt rows a) (gF rows (tabW rows)) a (tabW rows * rows.length)
noncomputable def depOk (rows : List (List Int)) (x y : Int) : Bool := inR rows x y && decide (0 ≤ depRaw rows (pR rows x y))
noncomputable def depV (rows : List (List Int)) (x y : Int) : Int := if depOk rows x y then depRaw rows (pR rows x y) - gF rows (tabW rows) (pR rows x y) else 0
theorem depRaw_of {rows : List (List Int)} {W H n a : Nat} (g : GreyN rows W H n) {O : Nat → Int} (h : IsPass W n (gF rows W) (fun i => i = a) O) : depRaw rows a = depTo O (gF rows W) a n := by
  rw [depRaw, g.w, g.h, ← g.n]
  apply depTo_congr
  intro i hi
  rw [passAt, g.w, g.h, ← g.n]
  exact passL_get h hi
theorem GreyN.num' {rows : List (List Int)} {W H n : Nat} (g : GreyN rows W H n) (i : Nat) (hi : i < n) : 0 ≤ gF rows W i ∧ gF rows W i ≤ 99 := gF_bd g.ok g.w i (by rw [g.h, ← g.n]; exact hi)
-- (the walks: mk_dep.py)
set_option maxRecDepth 100000 in
set_option maxHeartbeats 2000000 in
theorem depthAt_any (A : Option Addr) (c : Nat) (rows : List (List Int)) (ax ay : Int) (w : World) (h : MatRd w A rows) (hn : rows.length ≤ 1000000000) (hr : ∀ i (h : i < rows.length), rows[i].length ≤ 1000000000) :
    Calls Try.prog 17 #[.agg #[.slice A rows.length c], .agg #[.int .i64 ax, .int .i64 ay]] w fun e w' => e = .returned (.tuple #[.int .i64 (depV rows ax ay), .bool (depOk rows ax ay)]) ∧ Below w.heap.size w w' := by
  obtain ⟨wB, hwB⟩ : ∃ wB, (w.alloc (.cells #[.slice A rows.length c] 26)).alloc (.cells #[.int .i64 ax, .int .i64 ay] 39) = wB := ⟨_, rfl⟩
  have B1 : Below w.heap.size w wB := by rw [← hwB]; exact Ext.more (Ext.more (Ext.refl _) _) _
  have G1 : GreyAt wB w.heap.size A c rows := by rw [← hwB]; exact (grey_box h).ext (Ext.more (Ext.refl _) _)
  have S0 : Blk wB (w.heap.size + 1) 39 #[.int .i64 ax, .int .i64 ay] := by
    have := Blk.made (w.alloc (.cells #[.slice A rows.length c] 26)) 39 #[.int .i64 ax, .int .i64 ay]
    rw [hwB] at this; simpa using this
  have VG := Lib.hid (fun V (hV : Below w.heap.size w V) => validGrey_any A c rows V (h.ext hV) hn hr)
  have GX := Lib.hid (fun V (hb : Below wB.heap.size wB V) => G1.ext hb)
  have SX := Lib.hid (fun V (hb : Below wB.heap.size wB V) => S0.under hb S0.lt)
  have c0 := G1.cell
  obtain ⟨W, hW⟩ : ∃ W, tabW rows = W := ⟨_, rfl⟩
  obtain ⟨H, hH⟩ : ∃ H, rows.length = H := ⟨_, rfl⟩
  rw [hH] at c0 VG hwB ⊢
  cases hg : greyOk rows
  · have F : Hid (depOk rows ax ay = false) := by simp [Hid, depOk, inR, hg]
    have F2 : Hid (depV rows ax ay = 0) := by rw [Hid, depV, F.out]; rfl
    rw [hg] at VG
    rw [F.out, F2.out]
    clear hg hn hr h hW hH G1
    go_enter Try.func17, Try.ntmps17
    go_wp2_with fail
    try simp only [hwB]
    refine (VG.out _ B1).mono ?_
    rintro e w2 ⟨rfl, hb⟩
    go_wp2_with fail
    go_ret2
    exact ⟨rfl, Ext.then_ B1 hb⟩
  rw [hg] at VG
  obtain ⟨s1, s2, s3, s4⟩ := tab_sizes hg
  have HS := Lib.hid (fun V (hV : GreyAt V w.heap.size A c rows) (x y : Int) => g_has hV hW hH (by omega) (by omega) (by omega) x y)
  have HA := Lib.hid (fun V (hV : GreyAt V w.heap.size A c rows) => HS.out V hV ax ay)
  cases ha : inG W H (ax, ay)
  · have F : Hid (depOk rows ax ay = false) := by simp [Hid, depOk, inR, hW, hH, ha]
    have F2 : Hid (depV rows ax ay = 0) := by rw [Hid, depV, F.out]; rfl
    rw [ha] at HA
    rw [F.out, F2.out]
    clear hg hn hr h hW hH G1 s1 s2 s3 s4 ha HS
    go_enter Try.func17, Try.ntmps17
    go_wp2_with fail
    try simp only [hwB]
    refine (VG.out _ B1).mono ?_
    rintro e w2 ⟨rfl, hb⟩
    have k0 := (SX.out _ hb).cell 0
    have k1 := (SX.out _ hb).cell 1
    simp at k0 k1
    go_wp2_with fail
    refine (HA.out _ (GX.out _ hb)).mono ?_
    rintro e w3 ⟨rfl, hb3⟩
    have hb13 := Ext.then_ hb hb3
    clear k0 k1
    go_wp2_with fail
    go_ret2
    exact ⟨rfl, Ext.then_ B1 hb13⟩
  obtain ⟨a1, a2, rfl, rfl, ha1, ha2, pa⟩ := inG_nat ha
  have GN : GreyN rows W H (W * H) := ⟨hg, hW, hH, rfl⟩
  have F : Hid (∀ O, IsPass W (W * H) (gF rows W) (fun i => i = a2 * W + a1) O → depOk rows a1 a2 = decide (0 ≤ depTo O (gF rows W) (a2 * W + a1) (W * H)) ∧ (0 ≤ depTo O (gF rows W) (a2 * W + a1) (W * H) → depV rows a1 a2 = depTo O (gF rows W) (a2 * W + a1) (W * H) - gF rows W (a2 * W + a1)) ∧ (¬ 0 ≤ depTo O (gF rows W) (a2 * W + a1) (W * H) → depV rows a1 a2 = 0)) := by
    intro O hO
    have e1 : pR rows a1 a2 = a2 * W + a1 := by rw [pR, hW, pa]
    have e2 := depRaw_of GN hO
    have e3 : inR rows a1 a2 = true := by simp [inR, hW, hH, ha, hg]
    have e4 : depOk rows a1 a2 = decide (0 ≤ depTo O (gF rows W) (a2 * W + a1) (W * H)) := by rw [depOk, e1, e2, e3, Bool.true_and]
    refine ⟨e4, fun h => ?_, fun h => ?_⟩
    · rw [depV, e4, e1, e2, hW]; simp [h]
    · rw [depV, e4]; simp [h]
  have HE := Lib.hid (fun V (hV : GreyAt V w.heap.size A c rows) => heights_any w.heap.size A c rows W H a1 a2 V hV hg hW hH ha1 ha2)
  have GA := Lib.hid (fun V (hV : GreyAt V w.heap.size A c rows) (x y : Nat) (hx : x < W) (hy : y < H) => g_at hV GN.row hx (show y < rows.length by omega))
  have GS := Lib.hid (fun V (hV : GreyAt V w.heap.size A c rows) => spots_any' w.heap.size A c rows W V hV (by omega) (by omega) GN.row)
  rw [hH, Nat.mul_comm H W] at GS
  have GB := Lib.hid (fun i (hi : i < W * H) => GN.num' i hi)
  have PR := Lib.hid (fun (i : Nat) (hi : i < W * H) => pl_row hi)
  have BD := Lib.hid (fun O (h : SoundP W (W * H) (gF rows W) (fun i => i = a2 * W + a1) O) => depTo_bd (O := O) (G := gF rows W) (a := a2 * W + a1) (n := W * H) (fun i hi => by have := h i hi; omega))
  have QN : Hid (a2 * W + a1 < W * H) := pl_lt ha1 ha2
  have NB : W * H ≤ 256 := Nat.le_trans (Nat.mul_le_mul (show W ≤ 16 by omega) (show H ≤ 16 by omega)) (by decide)
  have hW1 : 0 < W := by omega
  have CA := Lib.hid (fun V (hV : GreyAt V w.heap.size A c rows) => GA.out V hV a1 a2 ha1 ha2)
  rw [ha] at HA
  generalize depV rows a1 a2 = pv at *
  generalize depOk rows a1 a2 = po at *
  generalize hqa : a2 * W + a1 = qa at *
  clear hg hn hr h hW hH G1 s1 s2 s3 s4 ha HS GN hqa
  generalize gF rows W = G at *
  generalize W * H = n at *
  go_enter Try.func17, Try.ntmps17
  go_wp2_with fail
  try simp only [hwB]
  refine (VG.out _ B1).mono ?_
  rintro e w2 ⟨rfl, hb⟩
  have k0 := (SX.out _ hb).cell 0
  have k1 := (SX.out _ hb).cell 1
  simp at k0 k1
  go_wp2_with fail
  refine (HA.out _ (GX.out _ hb)).mono ?_
  rintro e w3 ⟨rfl, hb3⟩
  have hb13 := Ext.then_ hb hb3
  clear k0 k1
  have k2 := (SX.out _ hb13).cell 0
  have k3 := (SX.out _ hb13).cell 1
  simp at k2 k3
  go_wp2_with fail
  refine (HE.out _ (GX.out _ hb13)).mono ?_
  rintro e w5 ⟨A5, c5, vs, O, rfl, hm, hP, hb5⟩
  have hb15 := Ext.then_ hb13 hb5
  have G5 := gO_grey hm
  have hb6 := Ext.more hb15 (.cells #[.slice A5 H c5] 26)
  have FO := Lib.hid (F.out O hP.out)
  have BO := Lib.hid (BD.out O hP.out.sound)
  clear hm hb5 k2 k3
  go_wp2_with fail
  obtain ⟨p6, hp6⟩ : ∃ p6, w5.heap.size = p6 := ⟨_, rfl⟩
  rw [hp6] at G5
  simp only [hp6]
  generalize w5.alloc (.cells #[.slice A5 H c5] 26) = w6 at *
  refine (GS.out _ (GX.out _ hb6)).mono ?_
  rintro e w7 ⟨gS, cS, rfl, oS, hb7⟩
  have SP := own_spots oS (spG_length W n)
  have G7 := G5.ext hb7
  have hb17 := Ext.then_ hb6 hb7
  have OA := Lib.hid (fun V (hb : Below w7.heap.size w7 V) (x y : Nat) (hx : x < W) (hy : y < H) => gO_at (G7.ext hb) hx hy)
  have SPX := Lib.hid (fun V (hb : Below w7.heap.size w7 V) => SP.ext hb)
  have GX7 := Lib.hid (fun V (hb : Below w7.heap.size w7 V) => GX.out V (Ext.then_ hb17 hb))
  have SX7 := Lib.hid (fun V (hb : Below w7.heap.size w7 V) => SX.out V (Ext.then_ hb17 hb))
  clear oS hb7 G5 SP G7
  go_wp2_with fail
  go_loopw [7, 22] (fun b i wr => ∃ k : Nat, k ≤ n ∧ i = .int .i64 k ∧ b = .int .i64 (depTo O G qa k) ∧ Below w7.heap.size w7 wr) (fun _ i _ => n - (intOf i).toNat)
  case atStart => exact ⟨0, Nat.zero_le _, rfl, rfl, Ext.refl _⟩
  case round =>
    obtain ⟨k, hk, rfl, rfl, hbr⟩ := hrel
    by_cases hlt : k < n
    · have hx : k % W < W := Nat.mod_lt _ hW1
      have hy : k / W < H := PR.out k hlt
      have hkl : k < (spG W n).length := by rw [spG_length]; exact hlt
      obtain ⟨q1, q2⟩ := (SPX.out _ hbr).2 k hkl
      have ql := (SPX.out _ hbr).1
      have ek : k = k / W * W + k % W := (pl_eq k hW1).1
      have CG := Lib.hid (fun V (hb : Below w7.heap.size w7 V) => GA.out V (GX7.out V hb) (k % W) (k / W) hx hy)
      have CO := Lib.hid (fun V (hb : Below w7.heap.size w7 V) => OA.out V hb (k % W) (k / W) hx hy)
      rw [← ek] at CG CO
      simp only [spG, List.getElem_map, List.getElem_range] at q1 q2
      have DS : Hid (depTo O G qa (k + 1) = if G k < G qa ∧ (depTo O G qa k < 0 ∨ O k < depTo O G qa k) then O k else depTo O G qa k) := rfl
      have i0 : (0 : Int) ≤ (k : Int) := by omega
      have i1 : (k : Int) < (n : Int) := by omega
      have CAX := Lib.hid (fun V (hb : Below w7.heap.size w7 V) => CA.out V (GX7.out V hb))
      generalize k % W = x at *
      generalize k / W = y at *
      generalize depTo O G qa k = dk at *
      generalize O k = ok at *
      generalize G k = gk at *
      generalize G qa = ga at *
      have hbn := Ext.more hbr (.cells #[.int .i64 x, .int .i64 y] 39)
      have TB := Blk.made wr 39 #[.int .i64 x, .int .i64 y]
      clear ek
      go_wp2_with fail
      obtain ⟨bs, hbs⟩ : ∃ bs, wr.heap.size = bs := ⟨_, rfl⟩
      rw [hbs] at TB
      simp only [hbs]
      generalize wr.alloc (.cells #[.int .i64 x, .int .i64 y] 39) = wn at *
      clear q1 q2 ql hbs hbr
      have u0 := TB.cell 0
      have u1 := TB.cell 1
      have u2 := (SX7.out _ hbn).cell 0
      have u3 := (SX7.out _ hbn).cell 1
      simp at u0 u1 u2 u3
      have tl := TB.lt
      have sl := (SX7.out _ hbn).lt
      have ne : Nonempty (HeldW (fun V => Below wn.heap.size wn V)) := ⟨⟨wn, Ext.refl _⟩⟩
      have k0 : ∀ i : HeldW (fun V => Below wn.heap.size wn V), i.w.cell? ⟨bs, 0, none⟩ = some (.int .i64 x) := fun i => (i.h.cell (p := ⟨bs, 0, none⟩) tl).trans u0
      have k1 : ∀ i : HeldW (fun V => Below wn.heap.size wn V), i.w.cell? ⟨bs, 1, none⟩ = some (.int .i64 y) := fun i => (i.h.cell (p := ⟨bs, 1, none⟩) tl).trans u1
      have k2 : ∀ i : HeldW (fun V => Below wn.heap.size wn V), i.w.cell? ⟨w.heap.size + 1, 0, none⟩ = some (.int .i64 a1) := fun i => (i.h.cell (p := ⟨w.heap.size + 1, 0, none⟩) sl).trans u2
      have k3 : ∀ i : HeldW (fun V => Below wn.heap.size wn V), i.w.cell? ⟨w.heap.size + 1, 1, none⟩ = some (.int .i64 a2) := fun i => (i.h.cell (p := ⟨w.heap.size + 1, 1, none⟩) sl).trans u3
      by_cases g1 : gk < ga
      · have hd1 : decide (gk < ga) = true := by simp [g1]
        by_cases g2 : dk < 0
        · have hd2 : decide (dk < 0) = true := by simp [g2]
          have DN : Hid (depTo O G qa (k + 1) = ok) := by rw [Hid, DS.out, if_pos ⟨g1, .inl g2⟩]
          clear DS g1 g2
          refine wp_region_held_quiet (fun V => Below wn.heap.size wn V) (by kernel_rfl) (by kernel_rfl) (Ext.refl _).drew ?_
          repeat (go_big_quiet_step (first
            | (go_at_call_of 41 (Value.pointer (some ⟨p6, 0, none⟩)); exact Calls.above_of _ (CO.out _ (Ext.then_ hbn (HeldW.h _))))
            | (go_at_call_of 41 (Value.agg #[Value.int .i64 (x : Int), Value.int .i64 (y : Int)]); exact Calls.above_of _ (CG.out _ (Ext.then_ hbn (HeldW.h _))))
            | (go_at_call_of 41 (Value.agg #[Value.int .i64 (a1 : Int), Value.int .i64 (a2 : Int)]); exact Calls.above_of _ (CAX.out _ (Ext.then_ hbn (HeldW.h _))))))
          refine wpQuiet_nil ?_
          intro w8 hw'
          obtain ⟨⟨_, hb8⟩, rfl⟩ := hw'
          have hb18 := Ext.then_ hbn hb8
          have v0 := k0 ⟨w8, hb8⟩
          have v1 := k1 ⟨w8, hb8⟩
          have vl := (TB.under hb8 tl).lt
          clear ne k0 k1 k2 k3 u0 u1 u2 u3
          simp only at v0 v1
          go_wp2_with fail
          refine (CO.out _ hb18).mono ?_
          rintro e w9 ⟨rfl, hb9⟩
          go_wp2_with fail
          go_roundw
          case rel => exact ⟨k + 1, by omega, by go_num, by rw [DN.out], Ext.then_ hb18 hb9⟩
          case measure => simp [intOf]; omega
        · have hd2 : decide (dk < 0) = false := by simp; omega
          by_cases g3 : ok < dk
          · have hd3 : decide (ok < dk) = true := by simp [g3]
            have DN : Hid (depTo O G qa (k + 1) = ok) := by rw [Hid, DS.out, if_pos ⟨g1, .inr g3⟩]
            clear DS g1 g2 g3
            refine wp_region_held_quiet (fun V => Below wn.heap.size wn V) (by kernel_rfl) (by kernel_rfl) (Ext.refl _).drew ?_
            repeat (go_big_quiet_step (first
              | (go_at_call_of 41 (Value.pointer (some ⟨p6, 0, none⟩)); exact Calls.above_of _ (CO.out _ (Ext.then_ hbn (HeldW.h _))))
              | (go_at_call_of 41 (Value.agg #[Value.int .i64 (x : Int), Value.int .i64 (y : Int)]); exact Calls.above_of _ (CG.out _ (Ext.then_ hbn (HeldW.h _))))
              | (go_at_call_of 41 (Value.agg #[Value.int .i64 (a1 : Int), Value.int .i64 (a2 : Int)]); exact Calls.above_of _ (CAX.out _ (Ext.then_ hbn (HeldW.h _))))))
            refine wpQuiet_nil ?_
            intro w8 hw'
            obtain ⟨⟨_, hb8⟩, rfl⟩ := hw'
            have hb18 := Ext.then_ hbn hb8
            have v0 := k0 ⟨w8, hb8⟩
            have v1 := k1 ⟨w8, hb8⟩
            have vl := (TB.under hb8 tl).lt
            clear ne k0 k1 k2 k3 u0 u1 u2 u3
            simp only at v0 v1
            go_wp2_with fail
            refine (CO.out _ hb18).mono ?_
            rintro e w9 ⟨rfl, hb9⟩
            go_wp2_with fail
            go_roundw
            case rel => exact ⟨k + 1, by omega, by go_num, by rw [DN.out], Ext.then_ hb18 hb9⟩
            case measure => simp [intOf]; omega
          · have hd3 : decide (ok < dk) = false := by simp; omega
            have DN : Hid (depTo O G qa (k + 1) = dk) := by rw [Hid, DS.out, if_neg (by omega)]
            clear DS g1 g2 g3
            refine wp_region_held_quiet (fun V => Below wn.heap.size wn V) (by kernel_rfl) (by kernel_rfl) (Ext.refl _).drew ?_
            repeat (go_big_quiet_step (first
              | (go_at_call_of 41 (Value.pointer (some ⟨p6, 0, none⟩)); exact Calls.above_of _ (CO.out _ (Ext.then_ hbn (HeldW.h _))))
              | (go_at_call_of 41 (Value.agg #[Value.int .i64 (x : Int), Value.int .i64 (y : Int)]); exact Calls.above_of _ (CG.out _ (Ext.then_ hbn (HeldW.h _))))
              | (go_at_call_of 41 (Value.agg #[Value.int .i64 (a1 : Int), Value.int .i64 (a2 : Int)]); exact Calls.above_of _ (CAX.out _ (Ext.then_ hbn (HeldW.h _))))))
            refine wpQuiet_nil ?_
            intro w8 hw'
            obtain ⟨⟨_, hb8⟩, rfl⟩ := hw'
            have hb18 := Ext.then_ hbn hb8
            clear ne k0 k1 k2 k3 u0 u1 u2 u3
            go_wp2_with fail
            go_roundw
            case rel => exact ⟨k + 1, by omega, by go_num, by rw [DN.out], hb18⟩
            case measure => simp [intOf]; omega
      · have hd1 : decide (gk < ga) = false := by simp; omega
        have DN : Hid (depTo O G qa (k + 1) = dk) := by rw [Hid, DS.out, if_neg (by omega)]
        clear DS g1
        refine wp_region_held_quiet (fun V => Below wn.heap.size wn V) (by kernel_rfl) (by kernel_rfl) (Ext.refl _).drew ?_
        repeat (go_big_quiet_step (first
          | (go_at_call_of 41 (Value.pointer (some ⟨p6, 0, none⟩)); exact Calls.above_of _ (CO.out _ (Ext.then_ hbn (HeldW.h _))))
          | (go_at_call_of 41 (Value.agg #[Value.int .i64 (x : Int), Value.int .i64 (y : Int)]); exact Calls.above_of _ (CG.out _ (Ext.then_ hbn (HeldW.h _))))
          | (go_at_call_of 41 (Value.agg #[Value.int .i64 (a1 : Int), Value.int .i64 (a2 : Int)]); exact Calls.above_of _ (CAX.out _ (Ext.then_ hbn (HeldW.h _))))))
        refine wpQuiet_nil ?_
        intro w8 hw'
        obtain ⟨⟨_, hb8⟩, rfl⟩ := hw'
        have hb18 := Ext.then_ hbn hb8
        clear ne k0 k1 k2 k3 u0 u1 u2 u3
        go_wp2_with fail
        go_roundw
        case rel => exact ⟨k + 1, by omega, by go_num, by rw [DN.out], hb18⟩
        case measure => simp [intOf]; omega
    · obtain rfl : n = k := by omega
      have bo := BO.out n (Nat.le_refl _)
      have gb := GB.out qa QN.out
      obtain ⟨f1, f2, f3⟩ := FO.out
      have u2 := (SX7.out _ hbr).cell 0
      have u3 := (SX7.out _ hbr).cell 1
      simp at u2 u3
      have HB := Lib.hid (Ext.then_ (Ext.then_ B1 hb17) hbr)
      have CAX := Lib.hid (CA.out _ (GX7.out _ hbr))
      generalize depTo O G qa n = dn at *
      generalize G qa = ga at *
      by_cases hd : dn < 0
      · have F1 : Hid (po = false) := by rw [Hid, f1]; simp; omega
        have F3 := Lib.hid (f3 (by omega))
        clear f1 f2 f3 FO F
        go_wp2_with fail
        go_ret2
        exact ⟨by rw [F1.out, F3.out]; rfl, HB.out⟩
      · have F1 : Hid (po = true) := by rw [Hid, f1]; simp; omega
        have F3 := Lib.hid (f2 (by omega))
        clear f1 f2 f3 FO F
        go_wp2_with fail
        refine CAX.out.mono ?_
        rintro e w9 ⟨rfl, hb9⟩
        go_wp2_with fail
        go_ret2
        exact ⟨by rw [F1.out, F3.out]; rfl, Ext.then_ HB.out hb9⟩

end Go.Proofs.Ytkamkjbllmgifaa
