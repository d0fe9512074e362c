/- The reference's least heights to the edge. The least height between two spots, and to the edge: on both sides. The picture of the least heights to the edge: on both sides. A picture of water levels is small. -/
import Derived.Test.YtkamkjbllmgifaaPsS
namespace Go.Proofs.Ytkamkjbllmgifaa
open Go.RowKit

def edgeTo (W H k : Nat) : List Int := ((List.range k).filter (edgeB W H)).map fun i => ((i : Nat) : Int)
theorem edgeTo_succ (W H k : Nat) : edgeTo W H (k + 1) = if edgeB W H k = true then edgeTo W H k ++ [((k : Nat) : Int)] else edgeTo W H k := by
  unfold edgeTo
  rw [List.range_succ, List.filter_append, List.map_append]
  cases h : edgeB W H k <;> simp [h]
theorem edgeTo_len (W H k : Nat) : (edgeTo W H k).length ≤ k := by
  unfold edgeTo
  rw [List.length_map]
  exact Nat.le_trans (List.length_filter_le _ _) (by simp)
theorem edgeTo_mem (W H k i : Nat) : ((i : Nat) : Int) ∈ edgeTo W H k ↔ i < k ∧ edgeB W H i = true := by
  unfold edgeTo
  rw [List.mem_map]
  constructor
  · rintro ⟨j, hj, e⟩
    rw [List.mem_filter, List.mem_range] at hj
    obtain rfl : j = i := by omega
    exact hj
  · intro h
    exact ⟨i, by rw [List.mem_filter, List.mem_range]; exact h, rfl⟩
theorem edgeTo_bd (W H k : Nat) : ∀ v ∈ edgeTo W H k, 0 ≤ v ∧ v < k := by
  intro v hv
  unfold edgeTo at hv
  rw [List.mem_map] at hv
  obtain ⟨j, hj, rfl⟩ := hv
  rw [List.mem_filter, List.mem_range] at hj
  omega
theorem IsPass.congrFn {W n : Nat} {G : Nat → Int} {F F' : Nat → Prop} {O : Nat → Int} (h : IsPass W n G F O) (e : ∀ i, i < n → (F i ↔ F' i)) : IsPass W n G F' O := by
  have to : ∀ {A B : Nat → Prop} {k : Int} {i : Nat}, (∀ i, i < n → A i → B i) → Way W n G A k i → Way W n G B k i := by
    intro A B k i hab w
    induction w with
    | start i hi hF hG => exact .start i hi (hab i hi hF) hG
    | step q s _ ha hG ih => exact .step q s ih ha hG
  refine ⟨fun i hi => ?_, fun i k w => h.least i k (to (fun i hi => (e i hi).2) w)⟩
  obtain ⟨a, b, d⟩ := h.sound i hi
  exact ⟨a, b, fun hl => to (fun i hi => (e i hi).1) (d hl)⟩

end Go.Proofs.Ytkamkjbllmgifaa

namespace Go.Proofs.Ytkamkjbllmgifaa
open Go.RowKit

theorem passL_get {W n : Nat} {G : Nat → Int} {F : Nat → Prop} {O : Nat → Int} (h : IsPass W n G F O) {b : Nat} (hb : b < n) : (passL W n G F).getD b 0 = O b := by
  rw [← passL_of h, List.getD_eq_getElem?_getD, List.getElem?_map, List.getElem?_range hb]
  rfl
/-- The least height of ways between two places; to the edge. -/
noncomputable def passAt (rows : List (List Int)) (a b : Nat) : Int := (passL (tabW rows) (tabW rows * rows.length) (gF rows (tabW rows)) (fun i => i = a)).getD b 0
noncomputable def spillF (rows : List (List Int)) (b : Nat) : Int := (passL (tabW rows) (tabW rows * rows.length) (gF rows (tabW rows)) (fun i => edgeB (tabW rows) rows.length i = true)).getD b 0
def inR (rows : List (List Int)) (x y : Int) : Bool := greyOk rows && inG (tabW rows) rows.length (x, y)
def pR (rows : List (List Int)) (x y : Int) : Nat := plc (tabW rows) (x, y)
def passOk (rows : List (List Int)) (ax ay bx b_y : Int) : Bool := inR rows ax ay && inR rows bx b_y
noncomputable def passV (rows : List (List Int)) (ax ay bx b_y : Int) : Int := if passOk rows ax ay bx b_y then passAt rows (pR rows ax ay) (pR rows bx b_y) else 0
noncomputable def spillV (rows : List (List Int)) (x y : Int) : Int := if inR rows x y then spillF rows (pR rows x y) else 0
theorem grey_box {w : World} {A : Option Addr} {c : Nat} {rows : List (List Int)} (h : MatRd w A rows) : GreyAt (w.alloc (.cells #[.slice A rows.length c] 26)) w.heap.size A c rows := GreyAt.boxed h _
theorem gO_grey {w : World} {lo hi : Nat} {A : Option Addr} {c : Nat} {vs : List Value} {O : Nat → Int} {W H : Nat} (h : MatAt w lo hi A c vs (gO O W H)) : GreyAt (w.alloc (.cells #[.slice A H c] 26)) w.heap.size A c (gO O W H) := by
  have := grey_box (c := c) h.rd
  rwa [gO_length] at this
theorem gO_at {w : World} {p : Nat} {A : Option Addr} {c : Nat} {O : Nat → Int} {W H : Nat} (h : GreyAt w p A c (gO O W H)) {x y : Nat} (hx : x < W) (hy : y < H) :
    Calls Try.prog 41 #[.pointer (some ⟨p, 0, none⟩), .agg #[.int .i64 x, .int .i64 y]] w fun e w' => e = .returned (.int .i64 (O (y * W + x))) ∧ Below w.heap.size w w' := by
  have := at_any p A c (gO O W H) x y w h (by rw [gO_length]; exact hy) (by rw [gO_w]; exact hx)
  rwa [gO_get] at this
/-- A spot inside as two naturals. -/
theorem inG_nat {W H : Nat} {x y : Int} (h : inG W H (x, y) = true) : ∃ a b : Nat, x = a ∧ y = b ∧ a < W ∧ b < H ∧ plc W (x, y) = b * W + a := by
  have := inG_iff.1 h
  simp only at this
  exact ⟨x.toNat, y.toNat, by omega, by omega, by omega, by omega, rfl⟩

set_option maxRecDepth 100000 in
set_option maxHeartbeats 2000000 in
theorem passBetween_any (A : Option Addr) (c : Nat) (rows : List (List Int)) (ax ay bx b_y : Int) (w : World) (h : MatRd w A rows) (hn : rows.length ≤ 1000000000) (hr : ∀ i (h : i < rows.length), rows[i].length ≤ 1000000000) :
    Calls Try.prog 20 #[.agg #[.slice A rows.length c], .agg #[.int .i64 ax, .int .i64 ay], .agg #[.int .i64 bx, .int .i64 b_y]] w fun e w' => e = .returned (.tuple #[.int .i64 (passV rows ax ay bx b_y), .bool (passOk rows ax ay bx b_y)]) ∧ Below w.heap.size w w' := by
  obtain ⟨wB, hwB⟩ : ∃ wB, ((w.alloc (.cells #[.slice A rows.length c] 26)).alloc (.cells #[.int .i64 ax, .int .i64 ay] 39)).alloc (.cells #[.int .i64 bx, .int .i64 b_y] 39) = wB := ⟨_, rfl⟩
  have B1 : Below w.heap.size w wB := by rw [← hwB]; exact Ext.more (Ext.more (Ext.more (Ext.refl _) _) _) _
  have G1 : GreyAt wB w.heap.size A c rows := by rw [← hwB]; exact (grey_box h).ext (Ext.more (Ext.more (Ext.refl _) _) _)
  have S0 : Blk wB (w.heap.size + 1) 39 #[.int .i64 ax, .int .i64 ay] := by
    have := (Blk.made (w.alloc (.cells #[.slice A rows.length c] 26)) 39 #[.int .i64 ax, .int .i64 ay]).more (.cells #[.int .i64 bx, .int .i64 b_y] 39)
    rw [hwB] at this; simpa using this
  have S1 : Blk wB (w.heap.size + 1 + 1) 39 #[.int .i64 bx, .int .i64 b_y] := by
    have := Blk.made ((w.alloc (.cells #[.slice A rows.length c] 26)).alloc (.cells #[.int .i64 ax, .int .i64 ay] 39)) 39 #[.int .i64 bx, .int .i64 b_y]
    rw [hwB] at this; simpa using this
  have VG := Lib.hid (fun V (hV : Below w.heap.size w V) => validGrey_any A c rows V (h.ext hV) hn hr)
  have GX := Lib.hid (fun V (hb : Below wB.heap.size wB V) => G1.ext hb)
  have SX := Lib.hid (fun V (hb : Below wB.heap.size wB V) => And.intro (S0.under hb S0.lt) (S1.under hb S1.lt))
  have c0 := G1.cell
  obtain ⟨W, hW⟩ : ∃ W, tabW rows = W := ⟨_, rfl⟩
  obtain ⟨H, hH⟩ : ∃ H, rows.length = H := ⟨_, rfl⟩
  rw [hH] at c0 VG hwB ⊢
  cases hg : greyOk rows
  · have F : Hid (passOk rows ax ay bx b_y = false) := by simp [Hid, passOk, inR, hg]
    have F2 : Hid (passV rows ax ay bx b_y = 0) := by rw [Hid, passV, F.out]; rfl
    rw [hg] at VG
    rw [F.out, F2.out]
    clear hg hn hr h hW hH G1
    go_enter Try.func20, Try.ntmps20
    go_wp2_with fail
    try simp only [hwB]
    refine (VG.out _ B1).mono ?_
    rintro e w2 ⟨rfl, hb⟩
    go_wp2_with fail
    go_ret2
    exact ⟨rfl, Ext.then_ B1 hb⟩
  rw [hg] at VG
  obtain ⟨s1, s2, s3, s4⟩ := tab_sizes hg
  have HS := Lib.hid (fun V (hV : GreyAt V w.heap.size A c rows) (x y : Int) => g_has hV hW hH (by omega) (by omega) (by omega) x y)
  cases ha : inG W H (ax, ay)
  · have F : Hid (passOk rows ax ay bx b_y = false) := by simp [Hid, passOk, inR, hW, hH, ha]
    have F2 : Hid (passV rows ax ay bx b_y = 0) := by rw [Hid, passV, F.out]; rfl
    have HA := Lib.hid (fun V (hV : GreyAt V w.heap.size A c rows) => HS.out V hV ax ay)
    rw [ha] at HA
    rw [F.out, F2.out]
    clear hg hn hr h hW hH G1 s1 s2 s3 s4 ha HS
    go_enter Try.func20, Try.ntmps20
    go_wp2_with fail
    try simp only [hwB]
    refine (VG.out _ B1).mono ?_
    rintro e w2 ⟨rfl, hb⟩
    have k0 := (SX.out _ hb).1.cell 0
    have k1 := (SX.out _ hb).1.cell 1
    simp at k0 k1
    go_wp2_with fail
    refine (HA.out _ (GX.out _ hb)).mono ?_
    rintro e w3 ⟨rfl, hb3⟩
    go_wp2_with fail
    go_ret2
    exact ⟨rfl, Ext.then_ (Ext.then_ B1 hb) hb3⟩
  cases hbq : inG W H (bx, b_y)
  · have F : Hid (passOk rows ax ay bx b_y = false) := by simp [Hid, passOk, inR, hW, hH, hbq]
    have F2 : Hid (passV rows ax ay bx b_y = 0) := by rw [Hid, passV, F.out]; rfl
    have HA := Lib.hid (fun V (hV : GreyAt V w.heap.size A c rows) => HS.out V hV ax ay)
    have HQ := Lib.hid (fun V (hV : GreyAt V w.heap.size A c rows) => HS.out V hV bx b_y)
    rw [ha] at HA
    rw [hbq] at HQ
    rw [F.out, F2.out]
    clear hg hn hr h hW hH G1 s1 s2 s3 s4 ha hbq HS
    go_enter Try.func20, Try.ntmps20
    go_wp2_with fail
    try simp only [hwB]
    refine (VG.out _ B1).mono ?_
    rintro e w2 ⟨rfl, hb⟩
    have k0 := (SX.out _ hb).1.cell 0
    have k1 := (SX.out _ hb).1.cell 1
    simp at k0 k1
    go_wp2_with fail
    refine (HA.out _ (GX.out _ hb)).mono ?_
    rintro e w3 ⟨rfl, hb3⟩
    have hb13 := Ext.then_ hb hb3
    have k2 := (SX.out _ hb13).2.cell 0
    have k3 := (SX.out _ hb13).2.cell 1
    simp at k2 k3
    clear k0 k1
    go_wp2_with fail
    refine (HQ.out _ (GX.out _ hb13)).mono ?_
    rintro e w4 ⟨rfl, hb4⟩
    go_wp2_with fail
    go_ret2
    exact ⟨rfl, Ext.then_ (Ext.then_ B1 hb13) hb4⟩
  obtain ⟨a1, a2, rfl, rfl, ha1, ha2, pa⟩ := inG_nat ha
  obtain ⟨b1, b2, rfl, rfl, hb1, hb2, pb⟩ := inG_nat hbq
  have F : Hid (passOk rows a1 a2 b1 b2 = true) := by simp [Hid, passOk, inR, hW, hH, hbq, ha, hg]
  have F2 : Hid (∀ O, IsPass W (W * H) (gF rows W) (fun i => i = a2 * W + a1) O → passV rows a1 a2 b1 b2 = O (b2 * W + b1)) := by
    intro O hO
    rw [passV, F.out, if_pos rfl, passAt, pR, pR, hW, hH, pa, pb]
    exact passL_get hO (pl_lt hb1 hb2)
  have HA := Lib.hid (fun V (hV : GreyAt V w.heap.size A c rows) => HS.out V hV a1 a2)
  have HQ := Lib.hid (fun V (hV : GreyAt V w.heap.size A c rows) => HS.out V hV b1 b2)
  have HE := Lib.hid (fun V (hV : GreyAt V w.heap.size A c rows) => heights_any w.heap.size A c rows W H a1 a2 V hV hg hW hH ha1 ha2)
  rw [ha] at HA
  rw [hbq] at HQ
  rw [F.out]
  generalize passV rows a1 a2 b1 b2 = pv at *
  clear hg hn hr h hW hH G1 s1 s2 s3 s4 ha hbq HS
  go_enter Try.func20, Try.ntmps20
  go_wp2_with fail
  try simp only [hwB]
  refine (VG.out _ B1).mono ?_
  rintro e w2 ⟨rfl, hb⟩
  have k0 := (SX.out _ hb).1.cell 0
  have k1 := (SX.out _ hb).1.cell 1
  simp at k0 k1
  go_wp2_with fail
  refine (HA.out _ (GX.out _ hb)).mono ?_
  rintro e w3 ⟨rfl, hb3⟩
  have hb13 := Ext.then_ hb hb3
  have k2 := (SX.out _ hb13).2.cell 0
  have k3 := (SX.out _ hb13).2.cell 1
  simp at k2 k3
  clear k0 k1
  go_wp2_with fail
  refine (HQ.out _ (GX.out _ hb13)).mono ?_
  rintro e w4 ⟨rfl, hb4⟩
  have hb14 := Ext.then_ hb13 hb4
  have k4 := (SX.out _ hb14).1.cell 0
  have k5 := (SX.out _ hb14).1.cell 1
  simp at k4 k5
  clear k2 k3
  go_wp2_with fail
  refine (HE.out _ (GX.out _ hb14)).mono ?_
  rintro e w5 ⟨A5, c5, vs, O, rfl, hm, hP, hb5⟩
  have hb15 := Ext.then_ hb14 hb5
  have G5 := gO_grey hm
  have hb6 := Ext.more hb15 (.cells #[.slice A5 H c5] 26)
  have k6 := (SX.out _ hb6).2.cell 0
  have k7 := (SX.out _ hb6).2.cell 1
  simp at k6 k7
  have PV := Lib.hid (F2.out O hP.out)
  clear k4 k5 hm hb5
  go_wp2_with fail
  generalize w5.alloc (.cells #[.slice A5 H c5] 26) = w6 at *
  refine (gO_at G5 hb1 hb2).mono ?_
  rintro e w7 ⟨rfl, hb7⟩
  have HB := Lib.hid (Ext.then_ (Ext.then_ B1 hb6) hb7)
  clear k6 k7 G5 hb7
  go_wp2_with fail
  go_ret2
  exact ⟨by rw [PV.out]; rfl, HB.out⟩
end Go.Proofs.Ytkamkjbllmgifaa

namespace Go.Proofs.Ytkamkjbllmgifaa
open Go.RowKit

set_option maxRecDepth 100000 in
set_option maxHeartbeats 1000000 in
theorem own_any (ad : Addr) (m c : Nat) (L : List Int) (w : World) (hl : L.length = m) (h0 : 0 < m) (hm : m ≤ 1000) (hlt : ad.block < w.heap.size) (hc : ∀ j u, (ints L)[j]? = some u → w.cell? (ad.add j) = some u) :
    Calls Try.prog 81 #[.slice (some ad) m c] w fun e w' => ∃ g' c', e = .returned (.slice (some ⟨g', 0, none⟩) m c') ∧ w'.ownsRow w.heap.size 2 1 (.slice (some ⟨g', 0, none⟩) m c') m (ints L) ∧ Below w.heap.size w w' := by
  have hrow0 := World.ownsRow_lit (e := 2) (size := 1) w #[] 0 (Nat.le_refl _) (by decide) rfl
  have B0 : Below w.heap.size w (w.alloc (.cells #[] 2)) := Ext.more (Ext.refl _) _
  obtain ⟨i0, hi, hz0, hz1, hz2⟩ := info_parts intT.info
  have hnews : ∀ j u, (ints L)[j]? = some u → (w.alloc (.cells #[] 2)).cell? (ad.add j) = some u := fun j u hu => (B0.cell (by rw [Addr.add_block']; exact hlt)).trans (hc j u hu)
  have hlr : (ints L).length = m * 1 := by simp [ints, hl]
  have h1c : ∀ u ∈ ints L, u.oneCell' = true := by
    intro u hu
    simp only [ints, List.mem_map] at hu
    obtain ⟨a, _, rfl⟩ := hu
    rfl
  have hsz : w.heap.size ≤ (w.alloc (.cells #[] 2)).heap.size := B0.size
  clear hc
  go_enter Try.func81, Try.ntmps81
  go_wp2_with (at_builtin; refine wpList_append_lies _ (by rfl) _ _ 34 (by rfl) w.heap.size 2 i0 (.int .i64 0) 1 8 Try.underlying34 hi hz0 hz1 hz2 rfl (by decide) (.slice (some ⟨w.heap.size, 0, none⟩) 0 0) 0 [] (by rfl) hrow0 ad m c (ints L) (by rfl) hlr hnews h1c h0 (by unfold maxLen; omega) (by omega) hsz _ rfl ?_; intro g3 cap3 w3 hown3 hgrow3 hat3 hlt3)
  have hown4 : w3.ownsRow w.heap.size 2 1 (.slice (some ⟨g3, 0, none⟩) m cap3) m (ints L) := by simpa using hown3
  have B3 : Below w.heap.size w w3 := B0.grown hgrow3 hsz (fun z hz => by simp [Value.ownBlock] at hz; omega)
  clear hown3 hgrow3 hat3 hnews h1c hlr hrow0 B0 hsz
  go_ret
  exact ⟨_, _, rfl, hown4, B3⟩

set_option maxRecDepth 100000 in
set_option maxHeartbeats 2000000 in
theorem rowsS_any (W H n g : Nat) (O : Nat → Int) (w : World) (hW1 : 0 < W) (hW : W ≤ 16) (hH : H ≤ 16) (hn : n = W * H) (hB : Blk w g 2 (intC (fL O n))) :
    Calls Try.prog 48 #[.int .i64 W, .slice (some ⟨g, 0, none⟩) n n] w fun e w' => ∃ A c vs, e = .returned (.slice A H c) ∧ MatAt w' w.heap.size w'.heap.size A c vs (gO O W H) ∧ Below w.heap.size w w' := by
  have hrow0 := World.ownsRow_lit (e := 34) (size := 1) w #[] 0 (Nat.le_refl _) (by decide) rfl
  have M0 : MatAt (w.alloc (.cells #[] 34)) w.heap.size (w.alloc (.cells #[] 34)).heap.size (some ⟨w.heap.size, 0, none⟩) 0 [] (gridI (fun x y => O (y * W + x)) W 0) := MatAt.nil _ _ _ _ _ hrow0 (fun a ha => by cases ha; simp)
  have B0 : Below w.heap.size w (w.alloc (.cells #[] 34)) := Ext.more (Ext.refl _) _
  have OX := Lib.hid (fun V (hb : Below w.heap.size w V) y (hy : y < H) => own_any ⟨g, y * W, none⟩ W (n - y * W) (rowI (fun x y => O (y * W + x)) y W) V (rowI_length _ _ _) hW1 (by omega) (by have := (hB.under hb hB.lt).lt; exact this) (fun j u hu => by
    have hj : j < (ints (rowI (fun x y => O (y * W + x)) y W)).length := by
      by_cases e : j < (ints (rowI (fun x y => O (y * W + x)) y W)).length
      · exact e
      · rw [List.getElem?_eq_none (by omega)] at hu; cases hu
    have hj2 : j < W := by simpa [ints, rowI_length] using hj
    have hadd : (⟨g, y * W, none⟩ : Addr).add j = ⟨g, y * W + j, none⟩ := by unfold Addr.add; split <;> simp_all
    rw [hadd, (hB.under hb hB.lt).cell, intC_get _ _ (by rw [fL_length, hn]; exact pl_lt hj2 hy), fL_get, ← hu, List.getElem?_eq_getElem hj]
    simp [ints, rowI]))
  have YB : Hid (∀ y, y < H → y * W + W ≤ n) := by
    intro y hy
    have := Nat.mul_le_mul_right W (show y + 1 ≤ H by omega)
    rw [Nat.succ_mul, Nat.mul_comm H W, ← hn] at this
    exact this
  have YE : Hid (∀ y, y ≤ H → ¬ y < H → ¬ ((y * W : Nat) : Int) < (n : Int)) := by
    intro y h1 h2
    obtain rfl : y = H := by omega
    rw [hn, Nat.mul_comm]; omega
  have nb : n ≤ 256 := by rw [hn]; exact Nat.le_trans (Nat.mul_le_mul hW hH) (by decide)
  have E : Hid (gO O W H = gridI (fun x y => O (y * W + x)) W H) := rfl
  rw [E.out]
  generalize (fun x y => O (y * W + x)) = f at *
  clear hB hrow0 hn E
  go_enter Try.func48, Try.ntmps48
  go_wp2_with fail
  generalize w.alloc (.cells #[] 34) = w0 at *
  go_loopw [5, 6] (fun o i wr => ∃ (y c : Nat) (A : Option Addr) (vs : List Value), y ≤ H ∧ i = .int .i64 ((y * W : Nat) : Int) ∧ o = .slice A y c ∧ MatAt wr w.heap.size wr.heap.size A c vs (gridI f W y) ∧ Below w.heap.size w wr) (fun _ i _ => n + 1 - (intOf i).toNat)
  case atStart => exact ⟨0, _, _, _, Nat.zero_le _, by rw [Nat.zero_mul]; rfl, rfl, M0, B0⟩
  case round =>
    obtain ⟨y, c, A, vs, hy, rfl, rfl, hm, hb⟩ := hrel
    clear M0 B0
    by_cases hlt : y < H
    · have yb := YB.out y hlt
      have OK := Lib.hid (OX.out wr hb y hlt)
      have GS := Lib.hid (gridI_succ f W y)
      have RL := Lib.hid (rowI_length f y W)
      have GL := Lib.hid (gridI_length f W y)
      have hwz := hb.size
      have YS : Hid ((y + 1) * W = y * W + W) := Nat.succ_mul _ _
      have hyl : y ≤ 16 := by omega
      have MM := Lib.hid hm
      clear hm
      generalize hyw : y * W = yw at *
      have HYW := Lib.hid hyw
      clear hyw
      have i0 : (0 : Int) ≤ (yw : Int) := by omega
      have i1 : (yw : Int) < (n : Int) := by omega
      have i2 : (yw : Int) + (W : Int) ≤ (n : Int) := by omega
      have i3 : ((yw : Int) + (W : Int)).toNat = yw + W := by omega
      go_wp2_with fail
      refine OK.out.mono ?_
      rintro e w2 ⟨g2, c2, rfl, hrow, hb2⟩
      have hm2 := MM.out.ext hb2
      have hsz := hb2.size
      have hou := hm2.outer
      rw [GL.out] at hou
      go_wp2_with (at_builtin; refine wpList_app rowT (by rfl) _ _ (by rfl) w.heap.size (.slice A y c) y vs (by rfl) (hou.alloc _) w2.heap.size #[.slice (some ⟨g2, 0, none⟩) W c2] (by rfl) (heap_alloc_new _ _) rfl (by simp [Value.oneCell']) (by omega) (by simp; omega) ?_; intro g3 cap3 w3 hown3 hgrow3 hat3 hlt3)
      have PU : MatAt w3 w.heap.size w3.heap.size (some ⟨g3, 0, none⟩) cap3 (vs ++ [.slice (some ⟨g2, 0, none⟩) (rowI f y W).length c2]) (gridI f W y ++ [rowI f y W]) :=
        MatAt.push MM.out hb2 (by rw [RL.out]; exact hrow) hwz (Nat.le_refl _) (by rw [GL.out]; exact hgrow3) (by rw [GL.out, RL.out]; simpa using hown3)
      have B3 : Below w.heap.size w w3 := ((hb.trans (hb2.mono hwz)).alloc (by omega) _).grown hgrow3 (by simp; omega) (fun z hz => (hou.lt z hz).1)
      clear hown3 hgrow3 hat3 hou hm2 hrow
      go_wp2_with fail
      go_roundw
      case rel => exact ⟨y + 1, cap3, some ⟨g3, 0, none⟩, _, by omega, by rw [YS.out]; simp, rfl, by rw [GS.out]; exact PU, B3⟩
      case measure => simp [intOf]; omega
    · have t0 := YE.out y hy hlt
      obtain rfl : H = y := by omega
      go_wp2_with fail
      go_ret
      exact ⟨A, c, vs, rfl, hm, hb⟩

theorem gO_congr {O P : Nat → Int} {W H : Nat} (h : ∀ i, i < W * H → O i = P i) : gO O W H = gO P W H := by
  apply List.ext_getElem
  · simp [gO_length]
  · intro y h1 h2
    rw [gO_row, gO_row]
    rw [gO_length] at h1
    apply List.map_congr_left
    intro x hx
    exact h _ (pl_lt (List.mem_range.1 hx) h1)
/-- A call has returned a grey picture of memory of its own, and whether it is right. -/
def LevRes (w : World) (R : List (List Int)) (ok : Bool) (e : Ending) (w' : World) : Prop :=
  ∃ A c vs, e = .returned (.tuple #[.agg #[.slice A R.length c], .bool ok]) ∧ MatAt w' w.heap.size w'.heap.size A c vs R ∧ Below w.heap.size w w'
noncomputable def levR (rows : List (List Int)) : List (List Int) := if greyOk rows then gO (spillF rows) (tabW rows) rows.length else []
theorem lev_of {rows : List (List Int)} {W H n : Nat} (g : GreyN rows W H n) {O : Nat → Int} (h : IsPass W n (gF rows W) (fun i => edgeB W H i = true) O) : levR rows = gO O W H := by
  rw [levR, if_pos g.ok, g.w, g.h]
  apply gO_congr
  intro i hi
  rw [spillF, g.w, g.h]
  have hn := g.n
  rw [← hn] at hi ⊢
  exact passL_get h hi
end Go.Proofs.Ytkamkjbllmgifaa

namespace Go.Proofs.Ytkamkjbllmgifaa
open Go.RowKit

theorem LevRes.o {w w' : World} {R : List (List Int)} {ok : Bool} {e : Ending} (h : LevRes w R ok e w') : ∃ A c vs, e = .returned (.tuple #[.agg #[.slice A R.length c], .bool ok]) ∧ MatAt w' w.heap.size w'.heap.size A c vs R ∧ Below w.heap.size w w' := h
theorem tot_gO (O : Nat → Int) (W H : Nat) : ∀ k, k ≤ H → tot (gO O W H) k = k * W := by
  intro k
  induction k with
  | zero => intro _; simp [tot_zero]
  | succ k ih => intro h; rw [tot_succ (by rw [gO_length]; omega), ih (by omega), gO_w, Nat.succ_mul]
theorem gO_small (O : Nat → Int) (W H : Nat) (hW : W ≤ 16) (hH : H ≤ 16) : (gO O W H).length ≤ 1048576 ∧ tot (gO O W H) (gO O W H).length ≤ 1048576 ∧ ∀ i (h : i < (gO O W H).length), (gO O W H)[i].length ≤ 1048576 := by
  refine ⟨by rw [gO_length]; omega, ?_, fun i hi => by rw [gO_w]; omega⟩
  rw [gO_length, tot_gO O W H H (Nat.le_refl _)]
  exact Nat.le_trans (Nat.mul_le_mul hH hW) (by decide)
theorem levR_small (gr : List (List Int)) : (levR gr).length ≤ 1048576 ∧ tot (levR gr) (levR gr).length ≤ 1048576 ∧ ∀ i (h : i < (levR gr).length), (levR gr)[i].length ≤ 1048576 := by
  by_cases hp : greyOk gr = true
  · have s := tab_sizes hp
    have key : ∀ R, R = gO (spillF gr) (tabW gr) gr.length → R.length ≤ 1048576 ∧ tot R R.length ≤ 1048576 ∧ ∀ i (h : i < R.length), R[i].length ≤ 1048576 := by
      intro R e
      subst e
      exact gO_small _ _ _ (by omega) (by omega)
    exact key _ (by rw [levR, if_pos hp])
  · have key : ∀ R : List (List Int), R = [] → R.length ≤ 1048576 ∧ tot R R.length ≤ 1048576 ∧ ∀ i (h : i < R.length), R[i].length ≤ 1048576 := by
      intro R e
      subst e
      simp [tot]
    exact key _ (by rw [levR, if_neg hp])
end Go.Proofs.Ytkamkjbllmgifaa
