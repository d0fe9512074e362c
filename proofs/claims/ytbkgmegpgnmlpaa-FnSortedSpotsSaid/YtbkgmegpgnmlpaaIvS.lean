/- The intervals of a box: the reference's. -/
import Derived.Test.YtbkgmegpgnmlpaaIv
import Derived.Test.YtbkgmegpgnmlpaaHQ
import Derived.Test.YtbkgmegpgnmlpaaCvD
namespace Go.Proofs.Ytbkgmegpgnmlpaa
open Go.RowKit

set_option maxRecDepth 100000 in
set_option maxHeartbeats 1000000 in
theorem inS8_any (px py fx fy tx ty : Int) (w : World) :
    Calls Try.prog 67 #[.agg #[.int .i64 px, .int .i64 py], .agg #[.int .i64 fx, .int .i64 fy], .agg #[.int .i64 tx, .int .i64 ty]] w fun e w' => e = .returned (.bool (inBx (fx, fy) (tx, ty) (px, py))) ∧ Below w.heap.size w w' := by
  obtain ⟨wB, hwB⟩ : ∃ wB, ((w.alloc (.cells #[.int .i64 px, .int .i64 py] 29)).alloc (.cells #[.int .i64 fx, .int .i64 fy] 29)).alloc (.cells #[.int .i64 tx, .int .i64 ty] 29) = wB := ⟨_, rfl⟩
  have T1 : Blk wB w.heap.size 29 #[.int .i64 px, .int .i64 py] := by rw [← hwB]; exact ((Blk.made w _ _).more _).more _
  have T2 : Blk wB (w.heap.size + 1) 29 #[.int .i64 fx, .int .i64 fy] := by
    have := (Blk.made (w.alloc (.cells #[.int .i64 px, .int .i64 py] 29)) 29 #[.int .i64 fx, .int .i64 fy]).more (.cells #[.int .i64 tx, .int .i64 ty] 29)
    rw [hwB] at this; simpa using this
  have T3 : Blk wB (w.heap.size + 1 + 1) 29 #[.int .i64 tx, .int .i64 ty] := by
    have := Blk.made ((w.alloc (.cells #[.int .i64 px, .int .i64 py] 29)).alloc (.cells #[.int .i64 fx, .int .i64 fy] 29)) 29 #[.int .i64 tx, .int .i64 ty]
    rw [hwB] at this; simpa using this
  have B1 : Below w.heap.size w wB := by rw [← hwB]; exact Ext.more (Ext.more (Ext.more (Ext.refl _) _) _) _
  have I1 := Lib.hid (fun V => inS_any px fx tx V)
  have I2 := Lib.hid (fun V => inS_any py fy ty V)
  have k0 := T1.cell 0
  have k1 := T1.cell 1
  have k2 := T2.cell 0
  have k3 := T2.cell 1
  have k4 := T3.cell 0
  have k5 := T3.cell 1
  simp at k0 k1 k2 k3 k4 k5
  have E : Hid (inBx (fx, fy) (tx, ty) (px, py) = (inB px fx tx && inB py fy ty)) := rfl
  rw [E.out]
  clear E T1 T2 T3
  generalize inB py fy ty = b2 at *
  generalize inB px fx tx = b1 at *
  cases b1
  · go_enter Try.func67, Try.ntmps67
    go_wp2_with fail
    try simp only [hwB]
    refine (I1.out _).mono ?_
    rintro e w' ⟨rfl, rfl⟩
    go_wp2_with fail
    go_ret
    exact ⟨rfl, B1⟩
  · go_enter Try.func67, Try.ntmps67
    go_wp2_with fail
    try simp only [hwB]
    refine (I1.out _).mono ?_
    rintro e w' ⟨rfl, rfl⟩
    go_wp2_with fail
    refine (I2.out _).mono ?_
    rintro e w' ⟨rfl, rfl⟩
    go_wp2_with fail
    go_ret
    exact ⟨rfl, B1⟩

set_option maxRecDepth 100000 in
set_option maxHeartbeats 4000000 in
theorem intervalsS_any (g0 c0 n : Nat) (V : List (Int × Int)) (fx fy tx ty : Int) (w : World) (hV : SpAt w g0 V) (hn : V.length = n) (hn2 : n ≤ 1000) :
    Calls Try.prog 63 #[.slice (some ⟨g0, 0, none⟩) n c0, .agg #[.int .i64 fx, .int .i64 fy], .agg #[.int .i64 tx, .int .i64 ty]] w (PrRes w (spTo V (fx, fy) (tx, ty) n)) := by
  obtain ⟨wB, hwB⟩ : ∃ wB, (w.alloc (.cells #[.int .i64 fx, .int .i64 fy] 29)).alloc (.cells #[.int .i64 tx, .int .i64 ty] 29) = wB := ⟨_, rfl⟩
  have T2 : Blk wB w.heap.size 29 #[.int .i64 fx, .int .i64 fy] := by rw [← hwB]; exact (Blk.made w _ _).more _
  have T3 : Blk wB (w.heap.size + 1) 29 #[.int .i64 tx, .int .i64 ty] := by
    have := Blk.made (w.alloc (.cells #[.int .i64 fx, .int .i64 fy] 29)) 29 #[.int .i64 tx, .int .i64 ty]
    rw [hwB] at this; simpa using this
  have B1 : Below w.heap.size w wB := by rw [← hwB]; exact Ext.more (Ext.more (Ext.refl _) _) _
  have z2 : wB.heap.size = w.heap.size + 2 := by rw [← hwB]; simp
  have VX := Lib.hid (fun U (hU : Below wB.heap.size wB U) => (hV.ext B1).ext hU)
  have GX := Lib.hid (fun U (hb : Below wB.heap.size wB U) => And.intro (T2.under hb T2.lt) (T3.under hb T3.lt))
  have IN := Lib.hid (fun p : Int × Int => fun U => inS8_any p.1 p.2 fx fy tx ty U)
  have HN := Lib.hid hn
  have PS := Lib.hid (fun k => (show spTo V (fx, fy) (tx, ty) (k + 1) = if inBx (fx, fy) (tx, ty) (gp V k) then (if 0 < k && inBx (fx, fy) (tx, ty) (gp V (k - 1)) then setL (spTo V (fx, fy) (tx, ty) k) k else spTo V (fx, fy) (tx, ty) k ++ [((k : Int), (k : Int))]) else spTo V (fx, fy) (tx, ty) k from rfl))
  have PL := Lib.hid (spTo_le V (fx, fy) (tx, ty))
  have PP : Hid (∀ k, 0 < k → inBx (fx, fy) (tx, ty) (gp V (k - 1)) = true → 0 < (spTo V (fx, fy) (tx, ty) k).length) := by
    intro k hk hb
    obtain ⟨m, rfl⟩ : ∃ m, k = m + 1 := ⟨k - 1, by omega⟩
    rw [spTo, if_pos (by simpa using hb)]
    split
    · rename_i h
      rw [setL_len]
      rcases Nat.eq_zero_or_pos (spTo V (fx, fy) (tx, ty) m).length with h0 | h0
      · exfalso
        have e1 := spTo_eq V (fx, fy) (tx, ty) m
        simp only [Bool.and_eq_true, decide_eq_true_eq] at h
        obtain ⟨q, rfl⟩ : ∃ q, m = q + 1 := ⟨m - 1, by omega⟩
        have e2 : ivN V (fx, fy) (tx, ty) (q + 1) = ivN V (fx, fy) (tx, ty) q ++ [(q : Int)] := by rw [ivN_succ, if_pos (by simpa using h.2)]
        have := prtTo_pos 1 (ivN V (fx, fy) (tx, ty) (q + 1)) (ivN V (fx, fy) (tx, ty) (q + 1)).length (by rw [e2]; simp)
        rw [← e1] at this
        omega
      · exact h0
    · simp
  have B0 : Below wB.heap.size wB (wB.alloc (.cells #[] 61)) := Ext.more (Ext.refl _) _
  have hrow0 := World.ownsRow_lit (e := 61) (size := 1) wB #[] 0 (Nat.le_refl _) (by decide) rfl
  have M0 : MatAt (wB.alloc (.cells #[] 61)) wB.heap.size (wB.alloc (.cells #[] 61)).heap.size (some ⟨wB.heap.size, 0, none⟩) 0 [] (prR (spTo V (fx, fy) (tx, ty) 0)) := MatAt.nil _ _ _ _ _ hrow0 (fun a ha => by cases ha; simp)
  rw [z2] at M0
  have E0 : Hid ((spTo V (fx, fy) (tx, ty) 0).length = 0) := rfl
  clear hV hn hrow0 T2 T3
  go_enter Try.func63, Try.ntmps63
  go_wp2_with fail
  try simp only [hwB]
  try simp only [z2]
  generalize wB.alloc (.cells #[] 61) = w0 at *
  go_loopw [7, 8] (fun v i wr => ∃ (k c : Nat) (A : Option Addr) (vs : List Value), k ≤ n ∧ i = .int .i64 k ∧ v = .slice A (spTo V (fx, fy) (tx, ty) k).length c ∧ MatAt wr (w.heap.size + 2) wr.heap.size A c vs (prR (spTo V (fx, fy) (tx, ty) k)) ∧ Below wB.heap.size wB wr) (fun _ i _ => n - (intOf i).toNat)
  case atStart => exact ⟨0, _, _, _, Nat.zero_le _, rfl, by rw [E0.out]; try simp [z2], M0, B0⟩
  case round =>
    obtain ⟨k, c, A, vs, hk, rfl, rfl, hM, hb⟩ := hrel
    clear M0 B0
    by_cases hlt : k < n
    · have VA := VX.out _ hb
      have hkl : k < V.length := by rw [HN.out]; exact hlt
      obtain ⟨c1, c2⟩ := VA.2 k hkl
      have e1 : V[k] = gp V k := by rw [gp, List.getD_eq_getElem?_getD, List.getElem?_eq_getElem hkl]; rfl
      rw [e1] at c1 c2
      have P1 := Lib.hid (PS.out k)
      have i0 : (0 : Int) ≤ (k : Int) := by omega
      have i1 : (k : Int) < (n : Int) := by omega
      have HM := Lib.hid hM
      have pl := PL.out k
      have pp := Lib.hid (PP.out k)
      have gl := VA.1
      generalize spTo V (fx, fy) (tx, ty) k = P at *
      have INk := Lib.hid (IN.out (gp V k))
      generalize gp V k = p at *
      obtain ⟨px, py⟩ := p
      simp only at c1 c2 INk
      obtain ⟨q2, q3⟩ := GX.out _ hb
      have k2 := q2.cell 0
      have k3 := q2.cell 1
      have k4 := q3.cell 0
      have k5 := q3.cell 1
      simp at k2 k3 k4 k5
      have l2 := q2.lt
      have l3 := q3.lt
      clear e1 hM q2 q3 VA
      cases hbk : inBx (fx, fy) (tx, ty) (px, py)
      · rw [hbk] at INk
        have E : Hid (spTo V (fx, fy) (tx, ty) (k + 1) = P) := by rw [Hid, P1.out, hbk]; rfl
        clear P1 hbk
        go_wp2_with fail
        refine wp_region_held_quiet (fun U => Below wr.heap.size wr U) (by kernel_rfl) (by kernel_rfl) (Ext.refl _).drew ?_
        have ne : Nonempty (HeldW (fun U => Below wr.heap.size wr U)) := ⟨⟨wr, Ext.refl _⟩⟩
        have v0 : ∀ i : HeldW (fun U => Below wr.heap.size wr U), i.w.cell? ⟨g0, k * 2, none⟩ = _ := fun i => (i.h.cell (p := ⟨g0, k * 2, none⟩) gl).trans c1
        have v1 : ∀ i : HeldW (fun U => Below wr.heap.size wr U), i.w.cell? ⟨g0, k * 2 + 1, none⟩ = _ := fun i => (i.h.cell (p := ⟨g0, k * 2 + 1, none⟩) gl).trans c2
        have v2 : ∀ i : HeldW (fun U => Below wr.heap.size wr U), i.w.cell? ⟨w.heap.size, 0, none⟩ = _ := fun i => (i.h.cell (p := ⟨w.heap.size, 0, none⟩) l2).trans k2
        have v3 : ∀ i : HeldW (fun U => Below wr.heap.size wr U), i.w.cell? ⟨w.heap.size, 1, none⟩ = _ := fun i => (i.h.cell (p := ⟨w.heap.size, 1, none⟩) l2).trans k3
        have v4 : ∀ i : HeldW (fun U => Below wr.heap.size wr U), i.w.cell? ⟨w.heap.size + 1, 0, none⟩ = _ := fun i => (i.h.cell (p := ⟨w.heap.size + 1, 0, none⟩) l3).trans k4
        have v5 : ∀ i : HeldW (fun U => Below wr.heap.size wr U), i.w.cell? ⟨w.heap.size + 1, 1, none⟩ = _ := fun i => (i.h.cell (p := ⟨w.heap.size + 1, 1, none⟩) l3).trans k5
        repeat (go_big_quiet_step ((go_at_call 67; exact Calls.above_of _ (INk.out _))))
        refine wpQuiet_nil ?_
        intro w2 hw'
        obtain ⟨⟨_, hb2⟩, rfl⟩ := hw'
        clear ne v0 v1 v2 v3 v4 v5
        have HM2 := Lib.hid (HM.out.ext hb2)
        have z3 := hb2.size
        have HB2 := Ext.then_ hb hb2
        go_wp2_with fail
        go_roundw
        case rel => exact ⟨k + 1, c, A, vs, by omega, by go_num, by rw [E.out], by rw [E.out]; exact HM2.out.low (Nat.le_refl _) z3, HB2⟩
        case measure => simp [intOf]; omega
      · rw [hbk] at INk
        have P2 : Hid (spTo V (fx, fy) (tx, ty) (k + 1) = if 0 < k && inBx (fx, fy) (tx, ty) (gp V (k - 1)) then setL P k else P ++ [((k : Int), (k : Int))]) := by rw [Hid, P1.out, hbk]; rfl
        clear P1 hbk
        go_wp2_with fail
        refine wp_region_held_quiet (fun U => Below wr.heap.size wr U) (by kernel_rfl) (by kernel_rfl) (Ext.refl _).drew ?_
        have ne : Nonempty (HeldW (fun U => Below wr.heap.size wr U)) := ⟨⟨wr, Ext.refl _⟩⟩
        have v0 : ∀ i : HeldW (fun U => Below wr.heap.size wr U), i.w.cell? ⟨g0, k * 2, none⟩ = _ := fun i => (i.h.cell (p := ⟨g0, k * 2, none⟩) gl).trans c1
        have v1 : ∀ i : HeldW (fun U => Below wr.heap.size wr U), i.w.cell? ⟨g0, k * 2 + 1, none⟩ = _ := fun i => (i.h.cell (p := ⟨g0, k * 2 + 1, none⟩) gl).trans c2
        have v2 : ∀ i : HeldW (fun U => Below wr.heap.size wr U), i.w.cell? ⟨w.heap.size, 0, none⟩ = _ := fun i => (i.h.cell (p := ⟨w.heap.size, 0, none⟩) l2).trans k2
        have v3 : ∀ i : HeldW (fun U => Below wr.heap.size wr U), i.w.cell? ⟨w.heap.size, 1, none⟩ = _ := fun i => (i.h.cell (p := ⟨w.heap.size, 1, none⟩) l2).trans k3
        have v4 : ∀ i : HeldW (fun U => Below wr.heap.size wr U), i.w.cell? ⟨w.heap.size + 1, 0, none⟩ = _ := fun i => (i.h.cell (p := ⟨w.heap.size + 1, 0, none⟩) l3).trans k4
        have v5 : ∀ i : HeldW (fun U => Below wr.heap.size wr U), i.w.cell? ⟨w.heap.size + 1, 1, none⟩ = _ := fun i => (i.h.cell (p := ⟨w.heap.size + 1, 1, none⟩) l3).trans k5
        repeat (go_big_quiet_step ((go_at_call 67; exact Calls.above_of _ (INk.out _))))
        refine wpQuiet_nil ?_
        intro w2 hw'
        obtain ⟨⟨_, hb2⟩, rfl⟩ := hw'
        clear ne v0 v1 v2 v3 v4 v5
        have HM2 : Hid (MatAt w2 (w.heap.size + 2) w2.heap.size A c vs (prR P)) := (HM.out.ext hb2).low (Nat.le_refl _) hb2.size
        have HB2 := Ext.then_ hb hb2
        have gl2 : g0 < w2.heap.size := Nat.lt_of_lt_of_le gl hb2.size
        have l22 : w.heap.size < w2.heap.size := Nat.lt_of_lt_of_le l2 hb2.size
        have l32 : w.heap.size + 1 < w2.heap.size := Nat.lt_of_lt_of_le l3 hb2.size
        have VA2 := VX.out _ HB2
        obtain ⟨q2, q3⟩ := GX.out _ HB2
        clear k2 k3 k4 k5 c1 c2 HM INk
        have k2 := q2.cell 0
        have k3 := q2.cell 1
        have k4 := q3.cell 0
        have k5 := q3.cell 1
        simp at k2 k3 k4 k5
        clear q2 q3
        rcases Nat.eq_zero_or_pos k with h0 | h0
        · have t0 : decide (0 < k) = false := by simp only [decide_eq_false_iff_not]; omega
          have P3 : Hid (spTo V (fx, fy) (tx, ty) (k + 1) = P ++ [((k : Int), (k : Int))]) := by rw [Hid, P2.out, if_neg]; simp [h0]
          clear h0 P2
          go_wp2_with fail
          refine wp_region_held_quiet (fun U => Below w2.heap.size w2 U) (by kernel_rfl) (by kernel_rfl) (Ext.refl _).drew ?_
          have ne : Nonempty (HeldW (fun U => Below w2.heap.size w2 U)) := ⟨⟨w2, Ext.refl _⟩⟩
          have v0 : ∀ i : HeldW (fun U => Below w2.heap.size w2 U), i.w.cell? ⟨w.heap.size, 0, none⟩ = _ := fun i => (i.h.cell (p := ⟨w.heap.size, 0, none⟩) l22).trans k2
          have v1 : ∀ i : HeldW (fun U => Below w2.heap.size w2 U), i.w.cell? ⟨w.heap.size, 1, none⟩ = _ := fun i => (i.h.cell (p := ⟨w.heap.size, 1, none⟩) l22).trans k3
          have v2 : ∀ i : HeldW (fun U => Below w2.heap.size w2 U), i.w.cell? ⟨w.heap.size + 1, 0, none⟩ = _ := fun i => (i.h.cell (p := ⟨w.heap.size + 1, 0, none⟩) l32).trans k4
          have v3 : ∀ i : HeldW (fun U => Below w2.heap.size w2 U), i.w.cell? ⟨w.heap.size + 1, 1, none⟩ = _ := fun i => (i.h.cell (p := ⟨w.heap.size + 1, 1, none⟩) l32).trans k5
          repeat (go_big_quiet_step (fail))
          refine wpQuiet_nil ?_
          intro w3 hw'
          obtain ⟨⟨_, hb3⟩, rfl⟩ := hw'
          clear ne v0 v1 v2 v3
          have HM3 : Hid (MatAt w3 (w.heap.size + 2) w3.heap.size A c vs (prR P)) := (HM2.out.ext hb3).low (Nat.le_refl _) hb3.size
          have HB3 := Ext.then_ HB2 hb3
          have hou := HM3.out.outer
          rw [prR_len] at hou
          have HRW := Lib.hid (World.ownsRow_lit (e := 2) (size := 1) w3 #[.int .i64 k, .int .i64 k] 2 (Nat.le_refl _) (by decide) rfl)
          have hsz := HB3.size
          rw [z2] at hsz
          clear k2 k3 k4 k5
          go_wp2_with (at_builtin; refine wpList_app rowT (by rfl) _ _ (by rfl) (w.heap.size + 2) (.slice A P.length c) P.length vs (by rfl) ((hou.alloc _).alloc _) (w3.heap.size + 1) #[.slice (some ⟨w3.heap.size, 0, none⟩) 2 2] (by rfl) (by have := heap_alloc_new (w3.alloc (.cells #[.int .i64 k, .int .i64 k] 2)) (.cells #[.slice (some ⟨w3.heap.size, 0, none⟩) 2 2] 61); rwa [World.size_alloc] at this) rfl (by simp [Value.oneCell']) (by omega) (by simp; omega) ?_; intro g3 cap3 w5 hown5 hgrow5 hat5 hlt5)
          have PU : Hid (MatAt w5 (w.heap.size + 2) w5.heap.size (some ⟨g3, 0, none⟩) cap3 (vs ++ [.slice (some ⟨w3.heap.size, 0, none⟩) ([(k : Int), (k : Int)] : List Int).length 2]) (prR P ++ [[(k : Int), (k : Int)]])) :=
            MatAt.push HM3.out (Ext.more (Ext.refl w3) _) HRW.out (by omega) (Nat.le_refl _) (by rw [prR_len]; exact hgrow5) (by rw [prR_len]; simpa using hown5)
          have B5 : Below wB.heap.size wB w5 := ((HB3.alloc (by omega) _).alloc (by simp; omega) _).grown hgrow5 (by simp; omega) (fun z hz => by have := (hou.lt z hz).1; omega)
          clear hown5 hgrow5 hat5 hou
          go_roundw
          case rel => exact ⟨k + 1, cap3, some ⟨g3, 0, none⟩, _, by omega, by go_num, by rw [P3.out, List.length_append]; rfl, by rw [P3.out, prR_app]; exact PU.out, B5⟩
          case measure => simp [intOf]; omega
        · obtain ⟨m, hm⟩ : ∃ m, k = m + 1 := ⟨k - 1, by omega⟩
          have hml : m < V.length := by omega
          obtain ⟨d1, d2⟩ := VA2.2 m hml
          have e2 : V[m] = gp V m := by rw [gp, List.getD_eq_getElem?_getD, List.getElem?_eq_getElem hml]; rfl
          rw [e2] at d1 d2
          have INm := Lib.hid (IN.out (gp V m))
          have em : k - 1 = m := by omega
          have pp2 := pp.out
          rw [em] at P2 pp2
          generalize gp V m = pm at *
          obtain ⟨mx, my⟩ := pm
          simp only at d1 d2 INm
          have t0 : decide (0 < k) = true := by simp only [decide_eq_true_eq]; omega
          have j0 : (0 : Int) ≤ (m : Int) := by omega
          have j1 : (m : Int) < (n : Int) := by omega
          have EK : Hid ((k : Int) - 1 = (m : Int)) := by show (k : Int) - 1 = (m : Int); omega
          have EW : Hid (IntKind.i64.wrap ((k : Int) - 1) = (m : Int)) := by rw [Hid, EK.out]; exact i64_small (by omega)
          have H0 := Lib.hid h0
          clear e2 em hm h0 hml VA2
          cases hbm : inBx (fx, fy) (tx, ty) (mx, my)
          · rw [hbm] at INm
            have P3 : Hid (spTo V (fx, fy) (tx, ty) (k + 1) = P ++ [((k : Int), (k : Int))]) := by rw [Hid, P2.out, hbm, Bool.and_false]; rfl
            clear hbm P2 pp pp2
            have ek := EK.out
            have ew := EW.out
            go_wp2_with fail
            refine wp_region_held_quiet (fun U => Below w2.heap.size w2 U) (by kernel_rfl) (by kernel_rfl) (Ext.refl _).drew ?_
            have ne : Nonempty (HeldW (fun U => Below w2.heap.size w2 U)) := ⟨⟨w2, Ext.refl _⟩⟩
            have v0 : ∀ i : HeldW (fun U => Below w2.heap.size w2 U), i.w.cell? ⟨g0, m * 2, none⟩ = _ := fun i => (i.h.cell (p := ⟨g0, m * 2, none⟩) gl2).trans d1
            have v1 : ∀ i : HeldW (fun U => Below w2.heap.size w2 U), i.w.cell? ⟨g0, m * 2 + 1, none⟩ = _ := fun i => (i.h.cell (p := ⟨g0, m * 2 + 1, none⟩) gl2).trans d2
            have v2 : ∀ i : HeldW (fun U => Below w2.heap.size w2 U), i.w.cell? ⟨w.heap.size, 0, none⟩ = _ := fun i => (i.h.cell (p := ⟨w.heap.size, 0, none⟩) l22).trans k2
            have v3 : ∀ i : HeldW (fun U => Below w2.heap.size w2 U), i.w.cell? ⟨w.heap.size, 1, none⟩ = _ := fun i => (i.h.cell (p := ⟨w.heap.size, 1, none⟩) l22).trans k3
            have v4 : ∀ i : HeldW (fun U => Below w2.heap.size w2 U), i.w.cell? ⟨w.heap.size + 1, 0, none⟩ = _ := fun i => (i.h.cell (p := ⟨w.heap.size + 1, 0, none⟩) l32).trans k4
            have v5 : ∀ i : HeldW (fun U => Below w2.heap.size w2 U), i.w.cell? ⟨w.heap.size + 1, 1, none⟩ = _ := fun i => (i.h.cell (p := ⟨w.heap.size + 1, 1, none⟩) l32).trans k5
            repeat (go_big_quiet_step ((go_at_call 67; exact Calls.above_of _ (INm.out _))))
            refine wpQuiet_nil ?_
            intro w3 hw'
            obtain ⟨⟨_, hb3⟩, rfl⟩ := hw'
            clear ne v0 v1 v2 v3 v4 v5
            clear ek ew
            have HM3 : Hid (MatAt w3 (w.heap.size + 2) w3.heap.size A c vs (prR P)) := (HM2.out.ext hb3).low (Nat.le_refl _) hb3.size
            have HB3 := Ext.then_ HB2 hb3
            have hou := HM3.out.outer
            rw [prR_len] at hou
            have HRW := Lib.hid (World.ownsRow_lit (e := 2) (size := 1) w3 #[.int .i64 k, .int .i64 k] 2 (Nat.le_refl _) (by decide) rfl)
            have hsz := HB3.size
            rw [z2] at hsz
            clear k2 k3 k4 k5
            go_wp2_with (at_builtin; refine wpList_app rowT (by rfl) _ _ (by rfl) (w.heap.size + 2) (.slice A P.length c) P.length vs (by rfl) ((hou.alloc _).alloc _) (w3.heap.size + 1) #[.slice (some ⟨w3.heap.size, 0, none⟩) 2 2] (by rfl) (by have := heap_alloc_new (w3.alloc (.cells #[.int .i64 k, .int .i64 k] 2)) (.cells #[.slice (some ⟨w3.heap.size, 0, none⟩) 2 2] 61); rwa [World.size_alloc] at this) rfl (by simp [Value.oneCell']) (by omega) (by simp; omega) ?_; intro g3 cap3 w5 hown5 hgrow5 hat5 hlt5)
            have PU : Hid (MatAt w5 (w.heap.size + 2) w5.heap.size (some ⟨g3, 0, none⟩) cap3 (vs ++ [.slice (some ⟨w3.heap.size, 0, none⟩) ([(k : Int), (k : Int)] : List Int).length 2]) (prR P ++ [[(k : Int), (k : Int)]])) :=
              MatAt.push HM3.out (Ext.more (Ext.refl w3) _) HRW.out (by omega) (Nat.le_refl _) (by rw [prR_len]; exact hgrow5) (by rw [prR_len]; simpa using hown5)
            have B5 : Below wB.heap.size wB w5 := ((HB3.alloc (by omega) _).alloc (by simp; omega) _).grown hgrow5 (by simp; omega) (fun z hz => by have := (hou.lt z hz).1; omega)
            clear hown5 hgrow5 hat5 hou
            go_roundw
            case rel => exact ⟨k + 1, cap3, some ⟨g3, 0, none⟩, _, by omega, by go_num, by rw [P3.out, List.length_append]; rfl, by rw [P3.out, prR_app]; exact PU.out, B5⟩
            case measure => simp [intOf]; omega
          · rw [hbm] at INm
            have ppp := pp2 H0.out hbm
            have P3 : Hid (spTo V (fx, fy) (tx, ty) (k + 1) = setL P k) := by rw [Hid, P2.out, hbm, Bool.and_true, if_pos (by simpa using H0.out)]
            clear hbm P2 pp pp2
            have ek := EK.out
            have ew := EW.out
            go_wp2_with fail
            refine wp_region_held_quiet (fun U => Below w2.heap.size w2 U) (by kernel_rfl) (by kernel_rfl) (Ext.refl _).drew ?_
            have ne : Nonempty (HeldW (fun U => Below w2.heap.size w2 U)) := ⟨⟨w2, Ext.refl _⟩⟩
            have v0 : ∀ i : HeldW (fun U => Below w2.heap.size w2 U), i.w.cell? ⟨g0, m * 2, none⟩ = _ := fun i => (i.h.cell (p := ⟨g0, m * 2, none⟩) gl2).trans d1
            have v1 : ∀ i : HeldW (fun U => Below w2.heap.size w2 U), i.w.cell? ⟨g0, m * 2 + 1, none⟩ = _ := fun i => (i.h.cell (p := ⟨g0, m * 2 + 1, none⟩) gl2).trans d2
            have v2 : ∀ i : HeldW (fun U => Below w2.heap.size w2 U), i.w.cell? ⟨w.heap.size, 0, none⟩ = _ := fun i => (i.h.cell (p := ⟨w.heap.size, 0, none⟩) l22).trans k2
            have v3 : ∀ i : HeldW (fun U => Below w2.heap.size w2 U), i.w.cell? ⟨w.heap.size, 1, none⟩ = _ := fun i => (i.h.cell (p := ⟨w.heap.size, 1, none⟩) l22).trans k3
            have v4 : ∀ i : HeldW (fun U => Below w2.heap.size w2 U), i.w.cell? ⟨w.heap.size + 1, 0, none⟩ = _ := fun i => (i.h.cell (p := ⟨w.heap.size + 1, 0, none⟩) l32).trans k4
            have v5 : ∀ i : HeldW (fun U => Below w2.heap.size w2 U), i.w.cell? ⟨w.heap.size + 1, 1, none⟩ = _ := fun i => (i.h.cell (p := ⟨w.heap.size + 1, 1, none⟩) l32).trans k5
            repeat (go_big_quiet_step ((go_at_call 67; exact Calls.above_of _ (INm.out _))))
            refine wpQuiet_nil ?_
            intro w3 hw'
            obtain ⟨⟨_, hb3⟩, rfl⟩ := hw'
            clear ne v0 v1 v2 v3 v4 v5
            clear ek ew
            have HM3 : Hid (MatAt w3 (w.heap.size + 2) w3.heap.size A c vs (prR P)) := (HM2.out.ext hb3).low (Nat.le_refl _) hb3.size
            have HB3 := Ext.then_ HB2 hb3
            have hz2 := z2
            obtain ⟨g, gr, cy, q, ov, rfl, k1, hlo, fz, k2', HPU, eq1, eq2, eq3, j2, j3⟩ := prt_put HM3.out ppp (Nat.le_trans pl (Nat.le_trans hk hn2)) k
            have B5 := HB3.setCell (p := ⟨gr, 1, none⟩) (by rw [z2]; exact hlo) (.int .i64 k)
            have HSZ : Hid ((w3.setCell ⟨gr, 1, none⟩ (.int .i64 k)).heap.size = w3.heap.size) := by simp [Hid, World.setCell]
            obtain ⟨pn, hpn⟩ : ∃ pn, P.length = pn := ⟨_, rfl⟩
            have HPN := Lib.hid hpn
            rw [hpn] at eq1 eq2 j3 ⊢
            clear hpn HM3 HM2 k2 k3 k4 k5 d1 d2 hz2
            go_wp2_with fail
            go_roundw
            case rel => exact ⟨k + 1, c, some ⟨g, 0, none⟩, vs, by omega, by go_num, by rw [P3.out, setL_len, HPN.out], by rw [P3.out, HSZ.out]; exact HPU.out, B5⟩
            case measure => simp [intOf]; omega
    · obtain rfl : k = n := by omega
      have HM := Lib.hid hM
      have HB := Lib.hid (Ext.then_ B1 hb)
      clear hM
      go_wp2_with fail
      go_ret
      exact ⟨A, c, vs, rfl, HM.out.low (by omega) (Nat.le_refl _), HB.out⟩
end Go.Proofs.Ytbkgmegpgnmlpaa
