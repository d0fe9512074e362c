/- The least height between two spots, and to the edge: on both sides. -/
import Derived.Test.YtkamkjbllmgifaaSpS
namespace Go.Proofs.Ytkamkjbllmgifaa
open Go.RowKit

theorem passL_get {W n : Nat} {G : Nat → Int} {F : Nat → Prop} {O : Nat → Int} (h : IsPass W n G F O) {b : Nat} (hb : b < n) : (passL W n G F).getD b 0 = O b := by
  rw [← passL_of h, List.getD_eq_getElem?_getD, List.getElem?_map, List.getElem?_range hb]
  rfl
/-- The least height of ways between two places; to the edge. -/
noncomputable def passAt (rows : List (List Int)) (a b : Nat) : Int := (passL (tabW rows) (tabW rows * rows.length) (gF rows (tabW rows)) (fun i => i = a)).getD b 0
noncomputable def spillF (rows : List (List Int)) (b : Nat) : Int := (passL (tabW rows) (tabW rows * rows.length) (gF rows (tabW rows)) (fun i => edgeB (tabW rows) rows.length i = true)).getD b 0
def inR (rows : List (List Int)) (x y : Int) : Bool := greyOk rows && inG (tabW rows) rows.length (x, y)
def pR (rows : List (List Int)) (x y : Int) : Nat := plc (tabW rows) (x, y)
def passOk (rows : List (List Int)) (ax ay bx b_y : Int) : Bool := inR rows ax ay && inR rows bx b_y
noncomputable def passV (rows : List (List Int)) (ax ay bx b_y : Int) : Int := if passOk rows ax ay bx b_y then passAt rows (pR rows ax ay) (pR rows bx b_y) else 0
noncomputable def spillV (rows : List (List Int)) (x y : Int) : Int := if inR rows x y then spillF rows (pR rows x y) else 0
theorem grey_box {w : World} {A : Option Addr} {c : Nat} {rows : List (List Int)} (h : MatRd w A rows) : GreyAt (w.alloc (.cells #[.slice A rows.length c] 26)) w.heap.size A c rows := GreyAt.boxed h _
theorem gO_grey {w : World} {lo hi : Nat} {A : Option Addr} {c : Nat} {vs : List Value} {O : Nat → Int} {W H : Nat} (h : MatAt w lo hi A c vs (gO O W H)) : GreyAt (w.alloc (.cells #[.slice A H c] 26)) w.heap.size A c (gO O W H) := by
  have := grey_box (c := c) h.rd
  rwa [gO_length] at this
theorem gO_at {w : World} {p : Nat} {A : Option Addr} {c : Nat} {O : Nat → Int} {W H : Nat} (h : GreyAt w p A c (gO O W H)) {x y : Nat} (hx : x < W) (hy : y < H) :
    Calls Try.prog 41 #[.pointer (some ⟨p, 0, none⟩), .agg #[.int .i64 x, .int .i64 y]] w fun e w' => e = .returned (.int .i64 (O (y * W + x))) ∧ Below w.heap.size w w' := by
  have := at_any p A c (gO O W H) x y w h (by rw [gO_length]; exact hy) (by rw [gO_w]; exact hx)
  rwa [gO_get] at this
/-- A spot inside as two naturals. -/
theorem inG_nat {W H : Nat} {x y : Int} (h : inG W H (x, y) = true) : ∃ a b : Nat, x = a ∧ y = b ∧ a < W ∧ b < H ∧ plc W (x, y) = b * W + a := by
  have := inG_iff.1 h
  simp only at this
  exact ⟨x.toNat, y.toNat, by omega, by omega, by omega, by omega, rfl⟩

set_option maxRecDepth 100000 in
set_option maxHeartbeats 2000000 in
theorem passBetween_any (A : Option Addr) (c : Nat) (rows : List (List Int)) (ax ay bx b_y : Int) (w : World) (h : MatRd w A rows) (hn : rows.length ≤ 1000000000) (hr : ∀ i (h : i < rows.length), rows[i].length ≤ 1000000000) :
    Calls Try.prog 20 #[.agg #[.slice A rows.length c], .agg #[.int .i64 ax, .int .i64 ay], .agg #[.int .i64 bx, .int .i64 b_y]] w fun e w' => e = .returned (.tuple #[.int .i64 (passV rows ax ay bx b_y), .bool (passOk rows ax ay bx b_y)]) ∧ Below w.heap.size w w' := by
  obtain ⟨wB, hwB⟩ : ∃ wB, ((w.alloc (.cells #[.slice A rows.length c] 26)).alloc (.cells #[.int .i64 ax, .int .i64 ay] 39)).alloc (.cells #[.int .i64 bx, .int .i64 b_y] 39) = wB := ⟨_, rfl⟩
  have B1 : Below w.heap.size w wB := by rw [← hwB]; exact Ext.more (Ext.more (Ext.more (Ext.refl _) _) _) _
  have G1 : GreyAt wB w.heap.size A c rows := by rw [← hwB]; exact (grey_box h).ext (Ext.more (Ext.more (Ext.refl _) _) _)
  have S0 : Blk wB (w.heap.size + 1) 39 #[.int .i64 ax, .int .i64 ay] := by
    have := (Blk.made (w.alloc (.cells #[.slice A rows.length c] 26)) 39 #[.int .i64 ax, .int .i64 ay]).more (.cells #[.int .i64 bx, .int .i64 b_y] 39)
    rw [hwB] at this; simpa using this
  have S1 : Blk wB (w.heap.size + 1 + 1) 39 #[.int .i64 bx, .int .i64 b_y] := by
    have := Blk.made ((w.alloc (.cells #[.slice A rows.length c] 26)).alloc (.cells #[.int .i64 ax, .int .i64 ay] 39)) 39 #[.int .i64 bx, .int .i64 b_y]
    rw [hwB] at this; simpa using this
  have VG := Lib.hid (fun V (hV : Below w.heap.size w V) => validGrey_any A c rows V (h.ext hV) hn hr)
  have GX := Lib.hid (fun V (hb : Below wB.heap.size wB V) => G1.ext hb)
  have SX := Lib.hid (fun V (hb : Below wB.heap.size wB V) => And.intro (S0.under hb S0.lt) (S1.under hb S1.lt))
  have c0 := G1.cell
  obtain ⟨W, hW⟩ : ∃ W, tabW rows = W := ⟨_, rfl⟩
  obtain ⟨H, hH⟩ : ∃ H, rows.length = H := ⟨_, rfl⟩
  rw [hH] at c0 VG hwB ⊢
  cases hg : greyOk rows
  · have F : Hid (passOk rows ax ay bx b_y = false) := by simp [Hid, passOk, inR, hg]
    have F2 : Hid (passV rows ax ay bx b_y = 0) := by rw [Hid, passV, F.out]; rfl
    rw [hg] at VG
    rw [F.out, F2.out]
    clear hg hn hr h hW hH G1
    go_enter Try.func20, Try.ntmps20
    go_wp2_with fail
    try simp only [hwB]
    refine (VG.out _ B1).mono ?_
    rintro e w2 ⟨rfl, hb⟩
    go_wp2_with fail
    go_ret2
    exact ⟨rfl, Ext.then_ B1 hb⟩
  rw [hg] at VG
  obtain ⟨s1, s2, s3, s4⟩ := tab_sizes hg
  have HS := Lib.hid (fun V (hV : GreyAt V w.heap.size A c rows) (x y : Int) => g_has hV hW hH (by omega) (by omega) (by omega) x y)
  cases ha : inG W H (ax, ay)
  · have F : Hid (passOk rows ax ay bx b_y = false) := by simp [Hid, passOk, inR, hW, hH, ha]
    have F2 : Hid (passV rows ax ay bx b_y = 0) := by rw [Hid, passV, F.out]; rfl
    have HA := Lib.hid (fun V (hV : GreyAt V w.heap.size A c rows) => HS.out V hV ax ay)
    rw [ha] at HA
    rw [F.out, F2.out]
    clear hg hn hr h hW hH G1 s1 s2 s3 s4 ha HS
    go_enter Try.func20, Try.ntmps20
    go_wp2_with fail
    try simp only [hwB]
    refine (VG.out _ B1).mono ?_
    rintro e w2 ⟨rfl, hb⟩
    have k0 := (SX.out _ hb).1.cell 0
    have k1 := (SX.out _ hb).1.cell 1
    simp at k0 k1
    go_wp2_with fail
    refine (HA.out _ (GX.out _ hb)).mono ?_
    rintro e w3 ⟨rfl, hb3⟩
    go_wp2_with fail
    go_ret2
    exact ⟨rfl, Ext.then_ (Ext.then_ B1 hb) hb3⟩
  cases hbq : inG W H (bx, b_y)
  · have F : Hid (passOk rows ax ay bx b_y = false) := by simp [Hid, passOk, inR, hW, hH, hbq]
    have F2 : Hid (passV rows ax ay bx b_y = 0) := by rw [Hid, passV, F.out]; rfl
    have HA := Lib.hid (fun V (hV : GreyAt V w.heap.size A c rows) => HS.out V hV ax ay)
    have HQ := Lib.hid (fun V (hV : GreyAt V w.heap.size A c rows) => HS.out V hV bx b_y)
    rw [ha] at HA
    rw [hbq] at HQ
    rw [F.out, F2.out]
    clear hg hn hr h hW hH G1 s1 s2 s3 s4 ha hbq HS
    go_enter Try.func20, Try.ntmps20
    go_wp2_with fail
    try simp only [hwB]
    refine (VG.out _ B1).mono ?_
    rintro e w2 ⟨rfl, hb⟩
    have k0 := (SX.out _ hb).1.cell 0
    have k1 := (SX.out _ hb).1.cell 1
    simp at k0 k1
    go_wp2_with fail
    refine (HA.out _ (GX.out _ hb)).mono ?_
    rintro e w3 ⟨rfl, hb3⟩
    have hb13 := Ext.then_ hb hb3
    have k2 := (SX.out _ hb13).2.cell 0
    have k3 := (SX.out _ hb13).2.cell 1
    simp at k2 k3
    clear k0 k1
    go_wp2_with fail
    refine (HQ.out _ (GX.out _ hb13)).mono ?_
    rintro e w4 ⟨rfl, hb4⟩
    go_wp2_with fail
    go_ret2
    exact ⟨rfl, Ext.then_ (Ext.then_ B1 hb13) hb4⟩
  obtain ⟨a1, a2, rfl, rfl, ha1, ha2, pa⟩ := inG_nat ha
  obtain ⟨b1, b2, rfl, rfl, hb1, hb2, pb⟩ := inG_nat hbq
  have F : Hid (passOk rows a1 a2 b1 b2 = true) := by simp [Hid, passOk, inR, hW, hH, hbq, ha, hg]
  have F2 : Hid (∀ O, IsPass W (W * H) (gF rows W) (fun i => i = a2 * W + a1) O → passV rows a1 a2 b1 b2 = O (b2 * W + b1)) := by
    intro O hO
    rw [passV, F.out, if_pos rfl, passAt, pR, pR, hW, hH, pa, pb]
    exact passL_get hO (pl_lt hb1 hb2)
  have HA := Lib.hid (fun V (hV : GreyAt V w.heap.size A c rows) => HS.out V hV a1 a2)
  have HQ := Lib.hid (fun V (hV : GreyAt V w.heap.size A c rows) => HS.out V hV b1 b2)
  have HE := Lib.hid (fun V (hV : GreyAt V w.heap.size A c rows) => heights_any w.heap.size A c rows W H a1 a2 V hV hg hW hH ha1 ha2)
  rw [ha] at HA
  rw [hbq] at HQ
  rw [F.out]
  generalize passV rows a1 a2 b1 b2 = pv at *
  clear hg hn hr h hW hH G1 s1 s2 s3 s4 ha hbq HS
  go_enter Try.func20, Try.ntmps20
  go_wp2_with fail
  try simp only [hwB]
  refine (VG.out _ B1).mono ?_
  rintro e w2 ⟨rfl, hb⟩
  have k0 := (SX.out _ hb).1.cell 0
  have k1 := (SX.out _ hb).1.cell 1
  simp at k0 k1
  go_wp2_with fail
  refine (HA.out _ (GX.out _ hb)).mono ?_
  rintro e w3 ⟨rfl, hb3⟩
  have hb13 := Ext.then_ hb hb3
  have k2 := (SX.out _ hb13).2.cell 0
  have k3 := (SX.out _ hb13).2.cell 1
  simp at k2 k3
  clear k0 k1
  go_wp2_with fail
  refine (HQ.out _ (GX.out _ hb13)).mono ?_
  rintro e w4 ⟨rfl, hb4⟩
  have hb14 := Ext.then_ hb13 hb4
  have k4 := (SX.out _ hb14).1.cell 0
  have k5 := (SX.out _ hb14).1.cell 1
  simp at k4 k5
  clear k2 k3
  go_wp2_with fail
  refine (HE.out _ (GX.out _ hb14)).mono ?_
  rintro e w5 ⟨A5, c5, vs, O, rfl, hm, hP, hb5⟩
  have hb15 := Ext.then_ hb14 hb5
  have G5 := gO_grey hm
  have hb6 := Ext.more hb15 (.cells #[.slice A5 H c5] 26)
  have k6 := (SX.out _ hb6).2.cell 0
  have k7 := (SX.out _ hb6).2.cell 1
  simp at k6 k7
  have PV := Lib.hid (F2.out O hP.out)
  clear k4 k5 hm hb5
  go_wp2_with fail
  generalize w5.alloc (.cells #[.slice A5 H c5] 26) = w6 at *
  refine (gO_at G5 hb1 hb2).mono ?_
  rintro e w7 ⟨rfl, hb7⟩
  have HB := Lib.hid (Ext.then_ (Ext.then_ B1 hb6) hb7)
  clear k6 k7 G5 hb7
  go_wp2_with fail
  go_ret2
  exact ⟨by rw [PV.out]; rfl, HB.out⟩
end Go.Proofs.Ytkamkjbllmgifaa
