/- The sorted indices of a box, and the parts of a list: the program's. -/
import Derived.Test.YtbkgmegpgnmlpaaIvP
import Derived.Test.YtbkgmegpgnmlpaaMatP
import Derived.Test.YtbkgmegpgnmlpaaSrt

namespace Go.Proofs.Ytbkgmegpgnmlpaa
open Go.RowKit

theorem boxB_eq {o fx fy tx ty : Int} : boxB o (fx, fy) (tx, ty) = (inB o 0 4 && ((inB fx 0 (side o - 1) && inB fy 0 (side o - 1)) && ((inB tx 0 (side o - 1) && inB ty 0 (side o - 1)) && (decide (fx ≤ tx) && decide (fy ≤ ty))))) := by
  rw [Bool.eq_iff_iff, boxB_iff]
  simp only [Bool.and_eq_true, inB_iff, decide_eq_true_eq]
  omega
set_option maxRecDepth 100000 in
set_option maxHeartbeats 1000000 in
theorem box_any (o fx fy tx ty : Int) (w : World) :
    Calls Try.prog 44 #[.int .i64 o, .agg #[.int .i64 fx, .int .i64 fy], .agg #[.int .i64 tx, .int .i64 ty]] w fun e w' => e = .returned (.bool (boxB o (fx, fy) (tx, ty))) ∧ Below w.heap.size w w' := by
  obtain ⟨wB, hwB⟩ : ∃ wB, (w.alloc (.cells #[.int .i64 fx, .int .i64 fy] 29)).alloc (.cells #[.int .i64 tx, .int .i64 ty] 29) = wB := ⟨_, rfl⟩
  have T2 : Blk wB w.heap.size 29 #[.int .i64 fx, .int .i64 fy] := by rw [← hwB]; exact (Blk.made w _ _).more _
  have T3 : Blk wB (w.heap.size + 1) 29 #[.int .i64 tx, .int .i64 ty] := by
    have := Blk.made (w.alloc (.cells #[.int .i64 fx, .int .i64 fy] 29)) 29 #[.int .i64 tx, .int .i64 ty]
    rw [hwB] at this; simpa using this
  have B1 : Below w.heap.size w wB := by rw [← hwB]; exact Ext.more (Ext.more (Ext.refl _) _) _
  have IN := Lib.hid (fun V => in_any o 0 4 V)
  cases ho : inB o 0 4
  · have F : Hid (boxB o (fx, fy) (tx, ty) = false) := by rw [Hid, boxB_eq, ho]; rfl
    rw [ho] at IN
    rw [F.out]
    clear ho T2 T3
    go_enter Try.func44, Try.ntmps44
    go_wp2_with fail
    try simp only [hwB]
    refine (IN.out _).mono ?_
    rintro e w' ⟨rfl, rfl⟩
    go_wp2_with fail
    go_ret
    exact ⟨rfl, B1⟩
  obtain ⟨h0, h4⟩ := inB_iff.1 ho
  have OC := Lib.hid (fun x y V => onCurve_any o x y V h0 h4)
  have GX := Lib.hid (fun V (hb : Below wB.heap.size wB V) => And.intro (T2.under hb T2.lt) (T3.under hb T3.lt))
  have E := Lib.hid (boxB_eq (o := o) (fx := fx) (fy := fy) (tx := tx) (ty := ty))
  rw [ho] at IN E
  have O1 := Lib.hid (OC.out fx fy)
  have O2 := Lib.hid (OC.out tx ty)
  generalize (inB fx 0 (side o - 1) && inB fy 0 (side o - 1)) = q1 at *
  generalize (inB tx 0 (side o - 1) && inB ty 0 (side o - 1)) = q2 at *
  have k0 := T2.cell 0
  have k1 := T2.cell 1
  simp at k0 k1
  have S1 := Ext.more (Ext.refl wB) (.cells #[.int .i64 fx, .int .i64 fy] 29)
  have S2 := Ext.more S1 (.cells #[.int .i64 tx, .int .i64 ty] 29)
  have m0 := (GX.out _ S1).2.cell 0
  have m1 := (GX.out _ S1).2.cell 1
  simp at m0 m1
  have n0 := (GX.out _ S2).1.cell 0
  have n1 := (GX.out _ S2).1.cell 1
  have n2 := (GX.out _ S2).2.cell 0
  have n3 := (GX.out _ S2).2.cell 1
  simp at n0 n1 n2 n3
  clear ho T2 T3 OC
  cases q1
  · have F : Hid (boxB o (fx, fy) (tx, ty) = false) := by rw [Hid, E.out]; rfl
    rw [F.out]
    go_enter Try.func44, Try.ntmps44
    go_wp2_with fail
    try simp only [hwB]
    refine (IN.out _).mono ?_
    rintro e w' ⟨rfl, rfl⟩
    go_wp2_with fail
    refine (O1.out _).mono ?_
    rintro e w' ⟨rfl, rfl⟩
    go_wp2_with fail
    go_ret
    exact ⟨rfl, Ext.then_ B1 S1⟩
  cases q2
  · have F : Hid (boxB o (fx, fy) (tx, ty) = false) := by rw [Hid, E.out]; rfl
    rw [F.out]
    go_enter Try.func44, Try.ntmps44
    go_wp2_with fail
    try simp only [hwB]
    refine (IN.out _).mono ?_
    rintro e w' ⟨rfl, rfl⟩
    go_wp2_with fail
    refine (O1.out _).mono ?_
    rintro e w' ⟨rfl, rfl⟩
    go_wp2_with fail
    refine (O2.out _).mono ?_
    rintro e w' ⟨rfl, rfl⟩
    go_wp2_with fail
    go_ret
    exact ⟨rfl, Ext.then_ B1 S2⟩
  have F : Hid (boxB o (fx, fy) (tx, ty) = (decide (fx ≤ tx) && decide (fy ≤ ty))) := by rw [Hid, E.out]; rfl
  rw [F.out]
  clear E F
  by_cases hx : fx ≤ tx
  · by_cases hy : fy ≤ ty
    · have F : Hid ((decide (fx ≤ tx) && decide (fy ≤ ty)) = true) := by simp [Hid, hx, hy]
      rw [F.out]
      go_enter Try.func44, Try.ntmps44
      go_wp2_with fail
      try simp only [hwB]
      refine (IN.out _).mono ?_
      rintro e w' ⟨rfl, rfl⟩
      go_wp2_with fail
      refine (O1.out _).mono ?_
      rintro e w' ⟨rfl, rfl⟩
      go_wp2_with fail
      refine (O2.out _).mono ?_
      rintro e w' ⟨rfl, rfl⟩
      go_wp2_with fail
      go_ret
      exact ⟨rfl, Ext.then_ B1 S2⟩
    · have F : Hid ((decide (fx ≤ tx) && decide (fy ≤ ty)) = false) := by simp [Hid, hy]
      rw [F.out]
      go_enter Try.func44, Try.ntmps44
      go_wp2_with fail
      try simp only [hwB]
      refine (IN.out _).mono ?_
      rintro e w' ⟨rfl, rfl⟩
      go_wp2_with fail
      refine (O1.out _).mono ?_
      rintro e w' ⟨rfl, rfl⟩
      go_wp2_with fail
      refine (O2.out _).mono ?_
      rintro e w' ⟨rfl, rfl⟩
      go_wp2_with fail
      go_ret
      exact ⟨ret_bool (a := decide (fy ≤ ty)) (by simp [hy]), Ext.then_ B1 S2⟩
  · have F : Hid ((decide (fx ≤ tx) && decide (fy ≤ ty)) = false) := by simp [Hid, hx]
    rw [F.out]
    go_enter Try.func44, Try.ntmps44
    go_wp2_with fail
    try simp only [hwB]
    refine (IN.out _).mono ?_
    rintro e w' ⟨rfl, rfl⟩
    go_wp2_with fail
    refine (O1.out _).mono ?_
    rintro e w' ⟨rfl, rfl⟩
    go_wp2_with fail
    refine (O2.out _).mono ?_
    rintro e w' ⟨rfl, rfl⟩
    go_wp2_with fail
    go_ret
    exact ⟨rfl, Ext.then_ B1 S2⟩

set_option maxRecDepth 100000 in
set_option maxHeartbeats 2000000 in
theorem boxed_any (c o : Int) (fx fy tx ty : Int) (w : World) (hc0 : 0 ≤ c) (hc3 : c ≤ 3) (hB : boxB o (fx, fy) (tx, ty) = true) (s : Nat) (hs : side o = s) :
    Calls Try.prog 65 #[.int .i64 c, .int .i64 o, .agg #[.int .i64 fx, .int .i64 fy], .agg #[.int .i64 tx, .int .i64 ty]] w fun e w' => ∃ g cap, e = .returned (.slice (some ⟨g, 0, none⟩) (ivN (visTo c o s s) (fx, fy) (tx, ty) (s * s)).length cap) ∧
      w'.ownsRow w.heap.size 2 1 (.slice (some ⟨g, 0, none⟩) (ivN (visTo c o s s) (fx, fy) (tx, ty) (s * s)).length cap) (ivN (visTo c o s s) (fx, fy) (tx, ty) (s * s)).length (ints (ivN (visTo c o s s) (fx, fy) (tx, ty) (s * s))) ∧ Below w.heap.size w w' := by
  obtain ⟨⟨h0, h4⟩, b1, b2, b3, b4⟩ := boxB_iff.1 hB
  simp only at b1 b2 b3 b4
  have sp := side_pos h0 h4
  have sl := side_le h0 h4
  obtain ⟨W, hW⟩ : ∃ W : Nat, tx - fx + 1 = W := ⟨(tx - fx + 1).toNat, by omega⟩
  obtain ⟨H, hH⟩ : ∃ H : Nat, ty - fy + 1 = H := ⟨(ty - fy + 1).toNat, by omega⟩
  have SO := Lib.hid (bx_sorted hc0 hc3 hs hB hW hH)
  obtain ⟨wB, hwB⟩ : ∃ wB, (w.alloc (.cells #[.int .i64 fx, .int .i64 fy] 29)).alloc (.cells #[.int .i64 tx, .int .i64 ty] 29) = wB := ⟨_, rfl⟩
  have T2 : Blk wB w.heap.size 29 #[.int .i64 fx, .int .i64 fy] := by rw [← hwB]; exact (Blk.made w _ _).more _
  have T3 : Blk wB (w.heap.size + 1) 29 #[.int .i64 tx, .int .i64 ty] := by
    have := Blk.made (w.alloc (.cells #[.int .i64 fx, .int .i64 fy] 29)) 29 #[.int .i64 tx, .int .i64 ty]
    rw [hwB] at this; simpa using this
  have B1 : Below w.heap.size w wB := by rw [← hwB]; exact Ext.more (Ext.more (Ext.refl _) _) _
  have z2 : wB.heap.size = w.heap.size + 2 := by rw [← hwB]; simp
  have IX := Lib.hid (fun x y V (h1 : 0 ≤ x) (h2 : x < side o) (h3 : 0 ≤ y) (h4' : y < side o) => indexOf_any c o x y V hc0 hc3 h0 h4 h1 h2 h3 h4')
  have BS := Lib.hid (bxTo_succ c o (fx, fy) W)
  have BL := Lib.hid (bxTo_len c o (fx, fy) W)
  have B0 : Hid (bxTo c o (fx, fy) W 0 = []) := rfl
  have hW1 : 1 ≤ W := by omega
  have hW16 : W ≤ 16 := by omega
  have hH16 : H ≤ 16 := by omega
  have hWH : W * H ≤ 256 := Nat.le_trans (Nat.mul_le_mul hW16 hH16) (by decide)
  have hrow0 := World.ownsRow_lit (e := 2) (size := 1) wB #[] 0 (Nat.le_refl _) (by decide) rfl
  have X0 := Ext.more (Ext.refl wB) (.cells #[] 2)
  have GX := Lib.hid (fun V (hb : Below wB.heap.size wB V) => And.intro (T2.under hb T2.lt) (T3.under hb T3.lt))
  have q2 := (GX.out _ X0).1.cell 1
  simp at q2
  clear hB T2 T3
  go_enter Try.func65, Try.ntmps65
  go_wp2_with fail
  try simp only [hwB]
  try simp only [z2]
  generalize wB.alloc (.cells #[] 2) = w0 at *
  clear q2
  go_loopw [9, 10, 11] (fun v yv _ wr => ∃ j g cb : Nat, j ≤ H ∧ yv = .int .i64 (fy + j) ∧ v = .slice (some ⟨g, 0, none⟩) (j * W) cb ∧ wr.ownsRow wB.heap.size 2 1 (.slice (some ⟨g, 0, none⟩) (j * W) cb) (j * W) (ints (bxTo c o (fx, fy) W (j * W))) ∧ Below wB.heap.size wB wr) (fun _ yv _ _ => (ty + 1 - intOf yv).toNat)
  case atStart => exact ⟨0, _, 0, Nat.zero_le _, by simp, by rw [Nat.zero_mul], by rw [Nat.zero_mul, B0.out, ← z2]; exact hrow0, X0⟩
  case round =>
    obtain ⟨j, g, cb, hj, rfl, rfl, hown, hb⟩ := hrel
    clear hrow0 X0
    have k2 := (GX.out _ hb).1.cell 0
    have k3 := (GX.out _ hb).2.cell 1
    simp at k2 k3
    by_cases hlt : j < H
    · have t0 : fy + (j : Int) ≤ ty := by omega
      have SM : Hid ((j + 1) * W = j * W + W) := Nat.succ_mul _ _
      have YB : j * W + W ≤ 256 := by
        have : (j + 1) * W ≤ H * W := Nat.mul_le_mul_right _ (by omega)
        rw [Nat.succ_mul, Nat.mul_comm H W] at this; omega
      go_wp2_with fail
      go_loopw [9, 11] (fun v xv wr => ∃ i g cb : Nat, i ≤ W ∧ xv = .int .i64 (fx + i) ∧ v = .slice (some ⟨g, 0, none⟩) (j * W + i) cb ∧ wr.ownsRow wB.heap.size 2 1 (.slice (some ⟨g, 0, none⟩) (j * W + i) cb) (j * W + i) (ints (bxTo c o (fx, fy) W (j * W + i))) ∧ Below wB.heap.size wB wr) (fun _ xv _ => (tx + 1 - intOf xv).toNat)
      case atStart => exact ⟨0, g, cb, Nat.zero_le _, by simp, rfl, hown, hb⟩
      case round =>
        obtain ⟨i, g, cb, hi, rfl, rfl, hown, hb⟩ := hrel
        clear k2 k3
        have k3 := (GX.out _ hb).2.cell 0
        simp at k3
        by_cases hil : i < W
        · have t1 : fx + (i : Int) ≤ tx := by omega
          have IC := Lib.hid (IX.out (fx + i) (fy + j) wr (by omega) (by omega) (by omega) (by omega))
          have B := Lib.hid (BS.out (j * W + i))
          have e1 : (j * W + i) % W = i := by rw [Nat.add_comm, Nat.add_mul_mod_self_right, Nat.mod_eq_of_lt hil]
          have e2 : (j * W + i) / W = j := by rw [Nat.add_comm, Nat.add_mul_div_right _ _ (by omega), Nat.div_eq_of_lt hil, Nat.zero_add]
          rw [e1, e2] at B
          have hsz := hb.size
          generalize idxI c o (fx + i) (fy + j) = v at *
          obtain ⟨k, hk⟩ : ∃ k, j * W + i = k := ⟨_, rfl⟩
          have HK : Hid (j * W + (i + 1) = k + 1) := by rw [Hid, ← hk]; omega
          rw [hk] at B hown ⊢
          have kb : k ≤ 256 := by omega
          clear e1 e2 hk
          have O2 := hown.alloc (.cells #[.int .i64 (fx + i), .int .i64 (fy + j)] 29)
          have HB := Lib.hid (Ext.more hb (.cells #[.int .i64 (fx + i), .int .i64 (fy + j)] 29))
          go_wp2_with fail
          refine IC.out.mono ?_
          rintro e w' ⟨rfl, rfl⟩
          generalize hwz : wr.alloc (.cells #[.int .i64 (fx + i), .int .i64 (fy + j)] 29) = wz at *
          clear hwz
          have hz5 := HB.out.size
          go_wp2_with (at_builtin; refine wpList_app intT (by rfl) _ _ (by rfl) wB.heap.size (.slice (some ⟨g, 0, none⟩) k cb) k (ints (bxTo c o (fx, fy) W k)) (by rfl) (O2.alloc _) wz.heap.size #[.int .i64 v] (by rfl) (heap_alloc_new _ _) rfl (by simp [Value.oneCell']) (by omega) (by simp; omega) ?_; intro g3 cap3 w3 hown3 hgrow3 hat3 hlt3)
          have O3 : Hid (w3.ownsRow wB.heap.size 2 1 (.slice (some ⟨g3, 0, none⟩) (k + 1) cap3) (k + 1) (ints (bxTo c o (fx, fy) W (k + 1)))) := by
            rw [Hid, B.out]; simpa [ints] using hown3
          have B3 : Below wB.heap.size wB w3 := (HB.out.alloc hz5 _).grown hgrow3 (by simp; omega) (fun z hz => (O2.lt z hz).1)
          clear hown3 hgrow3 hat3 O2 hown
          go_roundw
          case rel => exact ⟨i + 1, g3, cap3, by omega, by go_num, by rw [HK.out], by rw [HK.out]; exact O3.out, B3⟩
          case measure => simp [intOf]; omega
        · obtain rfl : i = W := by omega
          have t1 : ¬ fx + (i : Int) ≤ tx := by omega
          have HO := Lib.hid hown
          clear hown
          go_wp2_with fail
          go_roundw
          case rel => exact ⟨j + 1, g, cb, by omega, by go_num, by rw [SM.out], by rw [SM.out]; exact HO.out, hb⟩
          case measure => simp [intOf]; omega
    · obtain rfl : j = H := by omega
      have t0 : ¬ fy + (j : Int) ≤ ty := by omega
      rw [Nat.mul_comm j W] at hown ⊢
      have SR := Lib.hid (sort_any wr hown (BL.out _) (by omega))
      rw [SO.out] at SR
      have LN : Hid ((ivN (visTo c o s s) (fx, fy) (tx, ty) (s * s)).length = W * j) := by rw [Hid, ← SO.out, List.length_mergeSort, BL.out]
      have hgl := (hown.lt g rfl).1
      have HB := Lib.hid hb
      clear hown hb
      go_wp2_with fail
      refine SR.out.mono ?_
      rintro e w5 ⟨rfl, hown5, hg5⟩
      have B5 : Below w.heap.size w w5 := (B1.trans (HB.out.mono (by omega))).grown hg5 (by have := HB.out.size; omega) (fun z hz => by cases hz; omega)
      have HO := Lib.hid hown5
      clear hown5 hg5
      go_wp2_with fail
      go_ret
      exact ⟨g, cb, by rw [LN.out]; rfl, by rw [LN.out]; exact own_base HO.out (by omega), B5⟩

theorem i64_small {q : Nat} (h : q ≤ 1000) : IntKind.i64.wrap (q : Int) = (q : Int) := IntWalk.i64_in _ (by omega)
theorem wrap64_small {q : Nat} (h : q ≤ 1000) : wrap64 (q : Int) = (q : Int) := IntWalk.wrap64_in _ ⟨by omega, by omega⟩
/-- Pairs as rows. -/
def prR (P : List (Int × Int)) : List (List Int) := P.map fun p => [p.1, p.2]
theorem prR_len (P : List (Int × Int)) : (prR P).length = P.length := by simp [prR]
theorem prR_app (P : List (Int × Int)) (p : Int × Int) : prR (P ++ [p]) = prR P ++ [[p.1, p.2]] := by simp [prR]
theorem prR_at {P : List (Int × Int)} {i : Nat} (h : i < P.length) : (prR P)[i]'(by rw [prR_len]; exact h) = [(P[i]).1, (P[i]).2] := by simp [prR]
theorem prR_set {P : List (Int × Int)} (h : 0 < P.length) (n : Int) : (prR P).set (P.length - 1) (((prR P)[P.length - 1]'(by rw [prR_len]; omega)).set 1 n) = prR (setL P n) := by
  rw [prR_at (by omega), setL, prR, prR, List.map_set]
  have : gp P (P.length - 1) = P[P.length - 1] := by rw [gp, List.getD_eq_getElem?_getD, List.getElem?_eq_getElem (by omega)]; rfl
  rw [this]
  rfl
/-- What a store of the last part's end needs and leaves. -/
theorem prt_put {w : World} {lo hi : Nat} {A : Option Addr} {c : Nat} {vs : List Value} {P : List (Int × Int)} (h : MatAt w lo hi A c vs (prR P)) (hP : 0 < P.length) (hb : P.length ≤ 1000) (v : Int) :
    ∃ g gr cy q ov, A = some ⟨g, 0, none⟩ ∧ w.cell? ⟨g, q, none⟩ = some (.slice (some ⟨gr, 0, none⟩) 2 cy) ∧ lo ≤ gr ∧ w.frozen? ⟨gr, 1, none⟩ = false ∧ w.cell? ⟨gr, 1, none⟩ = some ov ∧ Hid (MatAt (w.setCell ⟨gr, 1, none⟩ (.int .i64 v)) lo hi A c vs (prR (setL P v))) ∧
      (P.length : Int) - 1 = (q : Nat) ∧ IntKind.i64.wrap ((P.length : Int) - 1) = (q : Nat) ∧ wrap64 (q : Nat) = ((q : Nat) : Int) ∧ (0 : Int) ≤ (q : Nat) ∧ ((q : Nat) : Int) < P.length := by
  have hy : P.length - 1 < (prR P).length := by rw [prR_len]; omega
  have e3 : ((prR P)[P.length - 1]'hy).length = 2 := by rw [prR_at (by omega)]; rfl
  obtain ⟨g, gr, cy, rfl, hg', k1, hlo, hhi, hgl, fz, k2, put⟩ := h.put (y := P.length - 1) (x := 1) hy (by omega)
  rw [e3] at k1
  have PU := put v
  rw [prR_set hP] at PU
  have eq1 : (P.length : Int) - 1 = ((P.length - 1 : Nat) : Int) := by omega
  have hq : P.length - 1 ≤ 1000 := by omega
  exact ⟨g, gr, cy, P.length - 1, _, rfl, k1, hlo, fz, k2, PU, eq1, by rw [eq1]; exact i64_small hq, wrap64_small hq, Int.natCast_nonneg _, by omega⟩
/-- A call has returned parts of memory of its own. -/
def PrRes (w : World) (P : List (Int × Int)) (e : Ending) (w' : World) : Prop :=
  ∃ A c vs, e = .returned (.slice A P.length c) ∧ MatAt w' w.heap.size w'.heap.size A c vs (prR P) ∧ Below w.heap.size w w'

set_option maxRecDepth 100000 in
set_option maxHeartbeats 2000000 in
theorem parts_any (g0 c0 n : Nat) (l : List Int) (gap : Int) (w : World) (hl : IntAt w g0 l) (hn : l.length = n) (hn2 : n ≤ 1000) (hb : ∀ x ∈ l, -1000 ≤ x ∧ x ≤ 1000) (hg : -1000 ≤ gap ∧ gap ≤ 1000) :
    Calls Try.prog 64 #[.slice (some ⟨g0, 0, none⟩) n c0, .int .i64 gap] w (PrRes w (prtTo gap l n)) := by
  have LX := Lib.hid (fun V (hV : Below w.heap.size w V) => hl.ext hV)
  have HN := Lib.hid hn
  have PS := Lib.hid (fun k => (show prtTo gap l (k + 1) = if 0 < k ∧ l.getD k 0 - l.getD (k - 1) 0 ≤ gap then setL (prtTo gap l k) (l.getD k 0) else prtTo gap l k ++ [(l.getD k 0, l.getD k 0)] from rfl))
  have PP := Lib.hid (prtTo_pos gap l)
  have PL := Lib.hid (prtTo_le gap l)
  have BD : Hid (∀ k, k < n → -1000 ≤ l.getD k 0 ∧ l.getD k 0 ≤ 1000) := by
    intro k hk
    have hk' : k < l.length := by omega
    rw [List.getD_eq_getElem?_getD, List.getElem?_eq_getElem hk']
    exact hb _ (List.getElem_mem hk')
  have B0 : Below w.heap.size w (w.alloc (.cells #[] 61)) := Ext.more (Ext.refl _) _
  have hrow0 := World.ownsRow_lit (e := 61) (size := 1) w #[] 0 (Nat.le_refl _) (by decide) rfl
  have M0 : MatAt (w.alloc (.cells #[] 61)) w.heap.size (w.alloc (.cells #[] 61)).heap.size (some ⟨w.heap.size, 0, none⟩) 0 [] (prR (prtTo gap l 0)) := MatAt.nil _ _ _ _ _ hrow0 (fun a ha => by cases ha; simp)
  have E0 : Hid ((prtTo gap l 0).length = 0) := rfl
  obtain ⟨g1, g2⟩ := hg
  clear hl hb hn hrow0
  go_enter Try.func64, Try.ntmps64
  go_wp2_with fail
  generalize w.alloc (.cells #[] 61) = w0 at *
  go_loopw [5, 6, 7, 11] (fun v _ _ i wr => ∃ (k c : Nat) (A : Option Addr) (vs : List Value), k ≤ n ∧ i = .int .i64 k ∧ v = .slice A (prtTo gap l k).length c ∧ MatAt wr w.heap.size wr.heap.size A c vs (prR (prtTo gap l k)) ∧ Below w.heap.size w wr) (fun _ _ _ i _ => n - (intOf i).toNat)
  case atStart => exact ⟨0, _, _, _, Nat.zero_le _, rfl, by rw [E0.out], M0, B0⟩
  case round =>
    obtain ⟨k, c, A, vs, hk, rfl, rfl, hM, hb⟩ := hrel
    clear M0 B0
    by_cases hlt : k < n
    · have IA := LX.out _ hb
      have hkl : k < l.length := by rw [HN.out]; exact hlt
      have c1 := IA.2 k hkl
      have e1 : l[k] = l.getD k 0 := by rw [List.getD_eq_getElem?_getD, List.getElem?_eq_getElem hkl]; rfl
      rw [e1] at c1
      obtain ⟨d1, d2⟩ := BD.out k hlt
      have P1 := Lib.hid (PS.out k)
      have i0 : (0 : Int) ≤ (k : Int) := by omega
      have i1 : (k : Int) < (n : Int) := by omega
      have HM := Lib.hid hM
      have pl := PL.out k
      have pp := PP.out k
      generalize prtTo gap l k = P at *
      generalize l.getD k 0 = v at *
      clear e1 hM
      rcases Nat.eq_zero_or_pos k with h0 | h0
      · have hno : ¬ (0 < k ∧ v - l.getD (k - 1) 0 ≤ gap) := by omega
        have t0 : ¬ ((0 : Int) < (k : Int)) := by omega
        clear h0
        have hou := HM.out.outer
        rw [prR_len] at hou
        have HRW := Lib.hid (World.ownsRow_lit (e := 2) (size := 1) wr #[.int .i64 v, .int .i64 v] 2 (Nat.le_refl _) (by decide) rfl)
        have hsz := hb.size
        have P1e : Hid (prtTo gap l (k + 1) = P ++ [(v, v)]) := by rw [Hid, P1.out, if_neg hno]
        clear P1
        go_wp2_with (at_builtin; refine wpList_app rowT (by rfl) _ _ (by rfl) w.heap.size (.slice A P.length c) P.length vs (by rfl) ((hou.alloc _).alloc _) (wr.heap.size + 1) #[.slice (some ⟨wr.heap.size, 0, none⟩) 2 2] (by rfl) (by have := heap_alloc_new (wr.alloc (.cells #[.int .i64 v, .int .i64 v] 2)) (.cells #[.slice (some ⟨wr.heap.size, 0, none⟩) 2 2] 61); rwa [World.size_alloc] at this) rfl (by simp [Value.oneCell']) (by omega) (by simp; omega) ?_; intro g3 cap3 w3 hown3 hgrow3 hat3 hlt3)
        have PU : Hid (MatAt w3 w.heap.size w3.heap.size (some ⟨g3, 0, none⟩) cap3 (vs ++ [.slice (some ⟨wr.heap.size, 0, none⟩) ([v, v] : List Int).length 2]) (prR P ++ [[v, v]])) :=
          MatAt.push HM.out (Ext.more (Ext.refl wr) _) HRW.out hsz (Nat.le_refl _) (by rw [prR_len]; exact hgrow3) (by rw [prR_len]; simpa using hown3)
        have B3 : Below w.heap.size w w3 := ((hb.alloc (by omega) _).alloc (by simp; omega) _).grown hgrow3 (by simp; omega) (fun z hz => (hou.lt z hz).1)
        clear hown3 hgrow3 hat3 hou
        go_roundw
        case rel => exact ⟨k + 1, cap3, some ⟨g3, 0, none⟩, _, by omega, by go_num, by rw [P1e.out, List.length_append]; rfl, by rw [P1e.out, prR_app]; exact PU.out, B3⟩
        case measure => simp [intOf]; omega
      · obtain ⟨m, hm⟩ : ∃ m, k = m + 1 := ⟨k - 1, by omega⟩
        have hml : m < l.length := by omega
        have c2 := IA.2 m hml
        have e2 : l[m] = l.getD m 0 := by rw [List.getD_eq_getElem?_getD, List.getElem?_eq_getElem hml]; rfl
        rw [e2] at c2
        have EK : Hid ((k : Int) - 1 = (m : Int)) := by show (k : Int) - 1 = (m : Int); omega
        have EW : Hid (IntKind.i64.wrap ((k : Int) - 1) = (m : Int)) := by rw [Hid, EK.out]; exact i64_small (by omega)
        have em : k - 1 = m := by omega
        obtain ⟨d3, d4⟩ := BD.out m (by omega)
        rw [em] at P1
        generalize l.getD m 0 = pv at *
        have t0 : (0 : Int) < (k : Int) := by omega
        have j0 : (0 : Int) ≤ (m : Int) := by omega
        have j1 : (m : Int) < (n : Int) := by omega
        have MX := Lib.hid hm
        have H0 := Lib.hid h0
        clear e2 em hm h0 IA hml
        by_cases hgp : v - pv ≤ gap
        · have ppp := pp H0.out
          have P1e : Hid (prtTo gap l (k + 1) = setL P v) := by rw [Hid, P1.out, if_pos ⟨H0.out, hgp⟩]
          obtain ⟨g, gr, cy, q, ov, rfl, k1, hlo, fz, k2, HPU, eq1, eq2, eq3, j2, j3⟩ := prt_put HM.out ppp (Nat.le_trans pl (Nat.le_trans hk hn2)) v
          have B3 := hb.setCell (p := ⟨gr, 1, none⟩) hlo (.int .i64 v)
          have HSZ : Hid ((wr.setCell ⟨gr, 1, none⟩ (.int .i64 v)).heap.size = wr.heap.size) := by simp [Hid, World.setCell]
          obtain ⟨pn, hpn⟩ : ∃ pn, P.length = pn := ⟨_, rfl⟩
          have HPN := Lib.hid hpn
          rw [hpn] at eq1 eq2 j3 ⊢
          clear hpn P1 HM
          have ek := EK.out
          have ew := EW.out
          go_wp2_with fail
          go_roundw
          case rel => exact ⟨k + 1, c, some ⟨g, 0, none⟩, vs, by omega, by go_num, by rw [P1e.out, setL_len, HPN.out], by rw [P1e.out, HSZ.out]; exact HPU.out, B3⟩
          case measure => simp [intOf]; omega
        · have hno : ¬ (0 < k ∧ v - pv ≤ gap) := fun h => hgp h.2
          have hou := HM.out.outer
          rw [prR_len] at hou
          have HRW := Lib.hid (World.ownsRow_lit (e := 2) (size := 1) wr #[.int .i64 v, .int .i64 v] 2 (Nat.le_refl _) (by decide) rfl)
          have hsz := hb.size
          have P1e : Hid (prtTo gap l (k + 1) = P ++ [(v, v)]) := by rw [Hid, P1.out, if_neg hno]
          clear P1
          have ek := EK.out
          have ew := EW.out
          go_wp2_with (at_builtin; refine wpList_app rowT (by rfl) _ _ (by rfl) w.heap.size (.slice A P.length c) P.length vs (by rfl) ((hou.alloc _).alloc _) (wr.heap.size + 1) #[.slice (some ⟨wr.heap.size, 0, none⟩) 2 2] (by rfl) (by have := heap_alloc_new (wr.alloc (.cells #[.int .i64 v, .int .i64 v] 2)) (.cells #[.slice (some ⟨wr.heap.size, 0, none⟩) 2 2] 61); rwa [World.size_alloc] at this) rfl (by simp [Value.oneCell']) (by omega) (by simp; omega) ?_; intro g3 cap3 w3 hown3 hgrow3 hat3 hlt3)
          have PU : Hid (MatAt w3 w.heap.size w3.heap.size (some ⟨g3, 0, none⟩) cap3 (vs ++ [.slice (some ⟨wr.heap.size, 0, none⟩) ([v, v] : List Int).length 2]) (prR P ++ [[v, v]])) :=
            MatAt.push HM.out (Ext.more (Ext.refl wr) _) HRW.out hsz (Nat.le_refl _) (by rw [prR_len]; exact hgrow3) (by rw [prR_len]; simpa using hown3)
          have B3 : Below w.heap.size w w3 := ((hb.alloc (by omega) _).alloc (by simp; omega) _).grown hgrow3 (by simp; omega) (fun z hz => (hou.lt z hz).1)
          clear hown3 hgrow3 hat3 hou
          go_roundw
          case rel => exact ⟨k + 1, cap3, some ⟨g3, 0, none⟩, _, by omega, by go_num, by rw [P1e.out, List.length_append]; rfl, by rw [P1e.out, prR_app]; exact PU.out, B3⟩
          case measure => simp [intOf]; omega
    · obtain rfl : k = n := by omega
      have HM := Lib.hid hM
      clear hM
      go_wp2_with fail
      go_ret
      exact ⟨A, c, vs, rfl, HM.out, hb⟩
end Go.Proofs.Ytbkgmegpgnmlpaa
