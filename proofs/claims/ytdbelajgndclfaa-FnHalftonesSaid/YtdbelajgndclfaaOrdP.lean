/- Halftones by the table: the table on both sides. Halftones by the table: both sides. -/
import Derived.Test.YtdbelajgndclfaaGIm
import Derived.Test.YtdbelajgndclfaaWith
import Derived.Test.YtdbelajgndclfaaSRes
import Derived.Deep.RegionLaw
namespace Go.Proofs.Ytdbelajgndclfaa
open Go.RowKit

def ordT (i : Nat) : Int := [0, 8, 2, 10, 12, 4, 14, 6, 3, 11, 1, 9, 15, 7, 13, 5].getD i 0
def ordC : Array Value := #[.int .i64 0, .int .i64 8, .int .i64 2, .int .i64 10, .int .i64 12, .int .i64 4, .int .i64 14, .int .i64 6, .int .i64 3, .int .i64 11, .int .i64 1, .int .i64 9, .int .i64 15, .int .i64 7, .int .i64 13, .int .i64 5]
theorem ordC_get (i : Nat) (h : i < 16) : ordC[i]? = some (.int .i64 (ordT i)) := by
  have : i = 0 ∨ i = 1 ∨ i = 2 ∨ i = 3 ∨ i = 4 ∨ i = 5 ∨ i = 6 ∨ i = 7 ∨ i = 8 ∨ i = 9 ∨ i = 10 ∨ i = 11 ∨ i = 12 ∨ i = 13 ∨ i = 14 ∨ i = 15 := by omega
  rcases this with h | h | h | h | h | h | h | h | h | h | h | h | h | h | h | h <;> subst h <;> rfl
theorem ordT_bd (i : Nat) : 0 ≤ ordT i ∧ ordT i ≤ 15 := by
  by_cases h : i < 16
  · have : i = 0 ∨ i = 1 ∨ i = 2 ∨ i = 3 ∨ i = 4 ∨ i = 5 ∨ i = 6 ∨ i = 7 ∨ i = 8 ∨ i = 9 ∨ i = 10 ∨ i = 11 ∨ i = 12 ∨ i = 13 ∨ i = 14 ∨ i = 15 := by omega
    rcases this with h | h | h | h | h | h | h | h | h | h | h | h | h | h | h | h <;> subst h <;> decide
  · have : ordT i = 0 := by unfold ordT; rw [List.getD_eq_getElem?_getD, List.getElem?_eq_none (by simp; omega)]; rfl
    rw [this]; decide
def ordAt (x y : Nat) : Int := ordT (y % 4 * 4 + x % 4)

set_option maxHeartbeats 1000000 in
theorem orderAt_any (x y : Nat) (w : World) (hx : x ≤ 1000000) (hy : y ≤ 1000000) :
    Calls Try.prog 86 #[.int .i64 x, .int .i64 y] w fun e w' => e = .returned (.int .i64 (ordAt x y)) ∧ w = w' := by
  have hidx : ∀ i : Nat, i < 16 → ∀ V : World, (Instr.index 138 (.agg ordC) (.int .i64 (i : Int))).run Try.prog V = .ok (.int .i64 (ordT i)) V := by
    intro i h V
    have : i = 0 ∨ i = 1 ∨ i = 2 ∨ i = 3 ∨ i = 4 ∨ i = 5 ∨ i = 6 ∨ i = 7 ∨ i = 8 ∨ i = 9 ∨ i = 10 ∨ i = 11 ∨ i = 12 ∨ i = 13 ∨ i = 14 ∨ i = 15 := by omega
    rcases this with h | h | h | h | h | h | h | h | h | h | h | h | h | h | h | h <;> subst h <;> (show (_ : Result Value) = _; kernel_rfl)
  have hI := hidx (y % 4 * 4 + x % 4) (by omega)
  have e : ((y : Int) % 4 * 4 + (x : Int) % 4) = ((y % 4 * 4 + x % 4 : Nat) : Int) := by omega
  rw [← e] at hI
  have E : Hid (ordT (y % 4 * 4 + x % 4) = ordAt x y) := rfl
  generalize ordT (y % 4 * 4 + x % 4) = r at *
  unfold ordC at hI
  clear hidx e
  go_enter Try.func86, Try.ntmps86
  go_wp2_with fail
  go_ret
  exact ⟨ret_int E.out, rfl⟩
theorem tableL_any (w : World) : Calls Try.prog 79 #[] w fun e w' => e = .returned (.slice (some ⟨w.heap.size, 0, none⟩) 16 16) ∧ w' = w.alloc (.cells ordC 2) := by
  go_enter Try.func79, Try.ntmps79
  go_wp2_with fail
  go_ret
  exact ⟨rfl, rfl⟩
theorem tableL_ext (w : World) : Calls Try.prog 79 #[] w fun e w' => e = .returned (.slice (some ⟨w.heap.size, 0, none⟩) 16 16) ∧ Blk w' w.heap.size 2 ordC ∧ Below w.heap.size w w' :=
  (tableL_any w).mono fun _ _ ⟨h1, h2⟩ => ⟨h1, by rw [h2]; exact Blk.made _ _ _, by rw [h2]; exact Ext.more (Ext.refl _) _⟩
end Go.Proofs.Ytdbelajgndclfaa

namespace Go.Proofs.Ytdbelajgndclfaa
open Go.RowKit

def ordBit (rows : List (List Int)) (W i : Nat) : Bool := decide (16 * (rowOf rows (i / W)).getD (i % W) 0 + 8 < 100 * ordAt (i % W) (i / W) + 50)
def ordL (rows : List (List Int)) : List Bool := bTo (ordBit rows (tabW rows)) (tabW rows * rows.length)
theorem ordBit_at {rows : List (List Int)} {W x y : Nat} (hx : x < W) (hy : y < rows.length) (hx2 : x < rows[y].length) : ordBit rows W (y * W + x) = decide (16 * rows[y][x] + 8 < 100 * ordAt x y + 50) := by
  simp [ordBit, divW hx, modW hx, rowOf_eq hy, List.getD_eq_getElem?_getD, hx2]
/-- What reads a grey picture at a place. -/
theorem MatRd.at {w : World} {A : Option Addr} {rows : List (List Int)} (h : MatRd w A rows) {y x : Nat} (hy : y < rows.length) (hx : x < rows[y].length) :
    ∃ g gr cy, A = some ⟨g, 0, none⟩ ∧ g < w.heap.size ∧ w.cell? ⟨g, y, none⟩ = some (.slice (some ⟨gr, 0, none⟩) rows[y].length cy) ∧ gr < w.heap.size ∧ w.cell? ⟨gr, x, none⟩ = some (.int .i64 rows[y][x]) := by
  obtain ⟨g, rfl, hg, hc⟩ := h (by omega)
  obtain ⟨Ay, cy, k1, k2⟩ := hc y hy
  obtain ⟨gr, rfl, hgr, hcr⟩ := k2 (by simp [ints]; omega)
  have := hcr x (by simpa [ints] using hx)
  exact ⟨g, gr, cy, rfl, hg, k1, hgr, by rw [this]; simp [ints]⟩

theorem enters_ord1 : Enters 85 := enters_of Try.func85 (by kernel_rfl) (by kernel_rfl)
set_option maxRecDepth 100000 in
set_option maxHeartbeats 1000000 in
theorem ord1_any (p : Nat) (A : Option Addr) (c : Nat) (rows : List (List Int)) (x y : Nat) (w : World) (h : GreyAt w p A c rows) (hok : greyOk rows = true) (hx : x < tabW rows) (hy : y < rows.length) :
    Calls Try.prog 85 #[.int .i64 x, .int .i64 y, .pointer (some ⟨p, 0, none⟩)] w fun e w' => e = .returned (.bool (ordBit rows (tabW rows) (y * tabW rows + x))) ∧ ∃ k, w' = w.drewN k := by
  obtain ⟨s1, s2, s3, s4⟩ := tab_sizes hok
  have hr := tab_row hok y hy
  have hx2 : x < rows[y].length := by rw [hr]; exact hx
  rw [ordBit_at hx hy hx2]
  have nb := tab_num hok y x hy hx2
  have c0 := h.cell
  obtain ⟨g, gr, cy, rfl, hg, k1, hgr, k2⟩ := h.rd.at hy hx2
  rw [hr] at k1
  have ob := ordT_bd (y % 4 * 4 + x % 4)
  have OH := Lib.hid (fun V => orderAt_any x y V (by omega) (by omega))
  have e : ordT (y % 4 * 4 + x % 4) = ordAt x y := rfl
  rw [e] at ob
  clear h hok hr e
  generalize rows[y][x] = v at *
  clear hx2
  generalize ordAt x y = o at *
  generalize tabW rows = W at *
  generalize rows.length = H at *
  have i0 : (0 : Int) ≤ (y : Int) := by omega
  have i1 : (y : Int) < (H : Int) := by omega
  have i2 : (0 : Int) ≤ (x : Int) := by omega
  have i3 : (x : Int) < (W : Int) := by omega
  have j0 : IntKind.i64.wrap (16 * v) = 16 * v := IntWalk.i64_in _ (by omega)
  have j1 : IntKind.i64.wrap (16 * v + 8) = 16 * v + 8 := IntWalk.i64_in _ (by omega)
  have j2 : IntKind.i64.wrap (100 * o) = 100 * o := IntWalk.i64_in _ (by omega)
  have j3 : IntKind.i64.wrap (100 * o + 50) = 100 * o + 50 := IntWalk.i64_in _ (by omega)
  go_enter Try.func85, Try.ntmps85
  go_wp2_with fail
  go_quiet ((go_at_call 86; exact Calls.quiet_of_same ((OH.out _).mono fun _ _ ⟨h, k⟩ => ⟨h, k.symm⟩)))
  clear j0 j1 j2 j3
  go_wp2_with fail
  go_ret
  exact ⟨rfl, _, rfl⟩
set_option maxRecDepth 100000 in
set_option maxHeartbeats 1000000 in
theorem ordered_any (A : Option Addr) (c : Nat) (rows : List (List Int)) (w : World) (h : MatRd w A rows) (hn : rows.length ≤ 1000000000) (hr : ∀ i (h : i < rows.length), rows[i].length ≤ 1000000000) :
    Calls Try.prog 36 #[.agg #[.slice A rows.length c]] w (PicRes w (if greyOk rows then rowsTo (ordL rows) (tabW rows) rows.length else []) (greyOk rows)) := by
  have B1 : Below w.heap.size w ((w.alloc (.cells #[.slice A rows.length c] 39)).alloc (.cells #[.slice none 0 0] 26)) := Ext.more (Ext.more (Ext.refl _) _) _
  have G1 : GreyAt ((w.alloc (.cells #[.slice A rows.length c] 39)).alloc (.cells #[.slice none 0 0] 26)) w.heap.size A c rows := (GreyAt.boxed h _).ext (Ext.more (Ext.refl _) _)
  have T1 : Blk ((w.alloc (.cells #[.slice A rows.length c] 39)).alloc (.cells #[.slice none 0 0] 26)) (w.heap.size + 1) 26 #[.slice none 0 0] := by
    have := Blk.made (w.alloc (.cells #[.slice A rows.length c] 39)) 26 #[.slice none 0 0]
    simpa using this
  have VG := Lib.hid (fun V (hV : MatRd V A rows) => validGrey_any A c rows V hV hn hr)
  have hmf : ∀ (fn : Fn) (first cap : Array Value) (w : World), (Instr.makeFunc fn first cap).run Try.prog w = .ok (.func fn first cap) w := fun _ _ _ _ => rfl
  have HG := Lib.hid G1
  cases hg : greyOk rows
  · rw [hg] at VG
    clear hg G1 h hr
    show Calls _ _ _ _ (PicRes w [] false)
    go_enter Try.func36, Try.ntmps36
    go_wp2_with fail
    refine (VG.out _ HG.out.rd).mono ?_
    rintro e w1 ⟨rfl, hb⟩
    have T2 := T1.under hb T1.lt
    have f0 := T2.free 0
    have c0 := T2.cell 0
    have cs := (T2.store 0 (.slice none 0 0)).cell 0
    simp at c0 cs
    go_wp2_with fail
    refine bodyPost_ret (v := .tuple #[.agg #[.slice none 0 0], .bool false]) (by simp [results, Try.results36, go_sem, cs]) rfl ⟨none, 0, rfl, World.ownsRow_nil _ _ _ _, ?_⟩
    exact (Ext.then_ B1 hb).setCell (p := ⟨w.heap.size + 1, 0, none⟩) (by show w.heap.size ≤ w.heap.size + 1; omega) _
  · rw [hg] at VG
    obtain ⟨s1, s2, s3, s4⟩ := tab_sizes hg
    have SZ := Lib.hid (fun V (hV : GreyAt V w.heap.size A c rows) => sizes_any w.heap.size A c rows V hV s1)
    have MD := Lib.hid (fun V (hV : GreyAt V w.heap.size A c rows) => made_any (tabW rows) rows.length 85 #[.pointer (some ⟨w.heap.size, 0, none⟩)] (ordBit rows (tabW rows)) V (by omega) (by omega) enters_ord1
      (fun x y hx hy wr hb => (ord1_any w.heap.size A c rows x y wr (hV.ext hb) hg hx hy).mono fun _ _ ⟨h1, k, h2⟩ => ⟨h1, by rw [h2]; exact Ext.drawN (Ext.refl _) _⟩))
    have TL := Lib.hid (fun p g V (hV : Img V p g (tabW rows) rows.length ((List.range (tabW rows * rows.length)).map (ordBit rows (tabW rows)))) => told_any p g _ _ _ V hV (by omega) (by omega))
    clear hg G1 h hr
    show Calls _ _ _ _ (PicRes w (rowsTo (ordL rows) (tabW rows) rows.length) true)
    have hlen : (rowsTo (ordL rows) (tabW rows) rows.length).length = rows.length := rowsTo_length _ _ _
    have E : Hid (ordL rows = (List.range (tabW rows * rows.length)).map (ordBit rows (tabW rows))) := rfl
    rw [← E.out] at TL MD
    clear E
    have HL := Lib.hid hlen
    clear hlen
    generalize ordL rows = RL at *
    generalize tabW rows = W at *
    generalize rows.length = H at *
    go_enter Try.func36, Try.ntmps36
    go_wp2_with fail
    refine (VG.out _ HG.out.rd).mono ?_
    rintro e w1 ⟨rfl, hb⟩
    have T2 := T1.under hb T1.lt
    have HG2 := Lib.hid (HG.out.ext hb)
    have B2 := Ext.then_ B1 hb
    clear hb HG
    go_wp2_with fail
    refine (SZ.out _ HG2.out).mono ?_
    rintro e w2 ⟨rfl, k, rfl⟩
    go_wp2_with fail
    refine (MD.out _ (HG2.out.drewN k)).mono ?_
    rintro e w2 ⟨p, g, rfl, hI, _, _, hb2⟩
    have T3 : Blk w2 (w.heap.size + 1) 26 #[.slice none 0 0] := Blk.under (w := w1.drewN k) T2 hb2 T2.lt
    have B3 := Ext.then_ (Ext.drawN B2 k) hb2
    have HI := Lib.hid hI
    clear hI hb2
    go_wp2_with fail
    refine (TL.out p g w2 HI.out).mono ?_
    rintro e w3 ⟨A3, c3, rfl, hown, hb3⟩
    have T4 := T3.under hb3 T3.lt
    have hz3 := T3.lt
    have hb2' := B3.size
    have f0 := T4.free 0
    have c0 := T4.cell 0
    have cs := (T4.store 0 (.slice A3 H c3)).cell 0
    simp at c0 cs
    have HO := Lib.hid hown
    clear hown
    go_wp2_with fail
    refine bodyPost_ret (v := .tuple #[.agg #[.slice A3 H c3], .bool true]) (by simp [results, Try.results36, go_sem, cs]) rfl ⟨A3, c3, by rw [HL.out], ?_, ?_⟩
    · rw [HL.out]
      exact own_base (ownsRow_setCell_below HO.out (a := ⟨w.heap.size + 1, 0, none⟩) (by show w.heap.size + 1 < w2.heap.size; omega) _) (by omega)
    · exact (Ext.then_ B3 hb3).setCell (p := ⟨w.heap.size + 1, 0, none⟩) (by show w.heap.size ≤ w.heap.size + 1; omega) _
set_option maxRecDepth 100000 in
set_option maxHeartbeats 2000000 in
theorem orderedS_any (A : Option Addr) (c : Nat) (rows : List (List Int)) (w : World) (h : MatRd w A rows) (hn : rows.length ≤ 1000000000) (hr : ∀ i (h : i < rows.length), rows[i].length ≤ 1000000000) :
    Calls Try.prog 34 #[.agg #[.slice A rows.length c]] w (PicRes w (if greyOk rows then rowsTo (ordL rows) (tabW rows) rows.length else []) (greyOk rows)) := by
  have B1 : Below w.heap.size w ((w.alloc (.cells #[.slice A rows.length c] 39)).alloc (.cells #[.slice none 0 0] 26)) := Ext.more (Ext.more (Ext.refl _) _) _
  have G1 : GreyAt ((w.alloc (.cells #[.slice A rows.length c] 39)).alloc (.cells #[.slice none 0 0] 26)) w.heap.size A c rows := (GreyAt.boxed h _).ext (Ext.more (Ext.refl _) _)
  have T1 : Blk ((w.alloc (.cells #[.slice A rows.length c] 39)).alloc (.cells #[.slice none 0 0] 26)) (w.heap.size + 1) 26 #[.slice none 0 0] := by
    have := Blk.made (w.alloc (.cells #[.slice A rows.length c] 39)) 26 #[.slice none 0 0]
    simpa using this
  have IG := Lib.hid (isGreyS_any w.heap.size A c rows _ G1 hn hr)
  cases hg : greyOk rows
  · rw [hg] at IG
    clear hg G1 h hr
    show Calls _ _ _ _ (PicRes w [] false)
    go_enter Try.func34, Try.ntmps34
    go_wp2_with fail
    refine IG.out.mono ?_
    rintro e w1 ⟨rfl, k, rfl⟩
    have T2 : Blk (World.drewN ((w.alloc (.cells #[.slice A rows.length c] 39)).alloc (.cells #[.slice none 0 0] 26)) k) (w.heap.size + 1) 26 #[.slice none 0 0] := T1
    have cs := (T2.store 0 (.slice none 0 0)).cell 0
    simp at cs
    clear T2
    go_wp2_with fail
    refine bodyPost_ret (v := .tuple #[.agg #[.slice none 0 0], .bool false]) (by simp [results, Try.results34, go_sem, cs]) rfl ⟨none, 0, rfl, World.ownsRow_nil _ _ _ _, ?_⟩
    exact (Ext.drawN B1 k).setCell (p := ⟨w.heap.size + 1, 0, none⟩) (by show w.heap.size ≤ w.heap.size + 1; omega) _
  · rw [hg] at IG
    obtain ⟨s1, s2, s3, s4⟩ := tab_sizes hg
    have SZ := Lib.hid (fun k => sizeS_any w.heap.size A c rows _ (G1.drewN k) s1)
    have MH := Lib.hid (fun (A : Option Addr) (c : Nat) V (hV : Rd V A (bools (ordL rows))) => make_any A c (tabW rows) rows.length (ordL rows) V hV s3 (by omega) (by omega) (by simp [ordL, bTo]))
    have EL : Hid (ordL rows = bTo (ordBit rows (tabW rows)) (tabW rows * rows.length)) := rfl
    have AT := Lib.hid (fun y x (hy : y < rows.length) (hx : x < tabW rows) => (show ∃ g gr cy v, A = some ⟨g, 0, none⟩ ∧ g < w.heap.size ∧ w.cell? ⟨g, y, none⟩ = some (.slice (some ⟨gr, 0, none⟩) (tabW rows) cy) ∧ gr < w.heap.size ∧ w.cell? ⟨gr, x, none⟩ = some (.int .i64 v) ∧ (0 ≤ v ∧ v ≤ 99) ∧ ordBit rows (tabW rows) (y * tabW rows + x) = decide (16 * v + 8 < 100 * ordAt x y + 50) from by
      have hr := tab_row hg y hy
      have hx2 : x < rows[y].length := by rw [hr]; exact hx
      obtain ⟨g, gr, cy, a1, a2, a3, a4, a5⟩ := h.at hy hx2
      rw [hr] at a3
      exact ⟨g, gr, cy, _, a1, a2, a3, a4, a5, tab_num hg y x hy hx2, ordBit_at hx hy hx2⟩))
    have HL : Hid ((rowsTo (ordL rows) (tabW rows) rows.length).length = rows.length) := rowsTo_length _ _ _
    have c0 := G1.cell
    clear hg G1 h hr
    show Calls _ _ _ _ (PicRes w (rowsTo (ordL rows) (tabW rows) rows.length) true)
    generalize ordL rows = RL at *
    generalize ordBit rows (tabW rows) = bf at *
    generalize tabW rows = W at *
    generalize rows.length = H at *
    have hWH : W * H ≤ 1000000 := Nat.le_trans (Nat.mul_le_mul (show W ≤ 1000 by omega) (show H ≤ 1000 by omega)) (by decide)
    go_enter Try.func34, Try.ntmps34
    go_wp2_with fail
    refine IG.out.mono ?_
    rintro e w1 ⟨rfl, k, rfl⟩
    go_wp2_with fail
    refine (SZ.out _).mono ?_
    rintro e w1 ⟨rfl, k2, rfl⟩
    go_wp2_with fail
    have I1 : Blk ((((w.alloc (.cells #[.slice A H c] 39)).alloc (.cells #[.slice none 0 0] 26)).drewN (k + k2)).alloc (.cells #[] 4)) (w.heap.size + 1) 26 #[.slice none 0 0] := Blk.more (w := ((w.alloc (.cells #[.slice A H c] 39)).alloc (.cells #[.slice none 0 0] 26)).drewN (k + k2)) T1 _
    have I2 : Below w.heap.size w ((((w.alloc (.cells #[.slice A H c] 39)).alloc (.cells #[.slice none 0 0] 26)).drewN (k + k2)).alloc (.cells #[] 4)) := Ext.more (Ext.drawN B1 _) _
    have I3 : ((((w.alloc (.cells #[.slice A H c] 39)).alloc (.cells #[.slice none 0 0] 26)).drewN (k + k2)).alloc (.cells #[] 4)).cell? ⟨w.heap.size, 0, none⟩ = some (.slice A H c) := cell_more (by simp; omega) (cell_drewN c0)
    have I4 := World.ownsRow_lit (e := 4) (size := 1) (((w.alloc (.cells #[.slice A H c] 39)).alloc (.cells #[.slice none 0 0] 26)).drewN (k + k2)) #[] 0 (Nat.le_refl _) (by decide) rfl
    have hz0 : (((w.alloc (.cells #[.slice A H c] 39)).alloc (.cells #[.slice none 0 0] 26)).drewN (k + k2)).heap.size = w.heap.size + 1 + 1 := by simp [World.drewN]
    rw [hz0] at I4
    have hz1 : w.heap.size + 1 + 1 < ((((w.alloc (.cells #[.slice A H c] 39)).alloc (.cells #[.slice none 0 0] 26)).drewN (k + k2)).alloc (.cells #[] 4)).heap.size := by simp [World.drewN]
    obtain ⟨R, hR⟩ : ∃ R, R = w.heap.size := ⟨_, rfl⟩
    rw [← hR] at I1 I2 I3 I4 hz1 AT ⊢
    have HR := Lib.hid hR
    clear hR T1 hz0 c0 IG SZ B1
    generalize (((w.alloc (.cells #[.slice A H c] 39)).alloc (.cells #[.slice none 0 0] 26)).drewN (k + k2)).alloc (.cells #[] 4) = V0 at *
    go_loopw [6, 7, 8] (fun v i _ wr => ∃ (y c2 : Nat) (A2 : Option Addr), y ≤ H ∧ i = .int .i64 y ∧ v = .slice A2 (y * W) c2 ∧ Blk wr (R + 1) 26 #[.slice none 0 0] ∧ wr.cell? ⟨R, 0, none⟩ = some (.slice A H c) ∧ wr.ownsRow (R + 2) 4 1 (.slice A2 (y * W) c2) (y * W) (bools (bTo bf (y * W))) ∧ Below R w wr) (fun _ i _ _ => H - (intOf i).toNat)
    case atStart => exact ⟨0, 0, _, Nat.zero_le _, rfl, by rw [Nat.zero_mul], I1, I3, by rw [Nat.zero_mul]; exact I4, I2⟩
    case round =>
      obtain ⟨y, c2, A2, hy, rfl, rfl, hB0, hc0, hown, hb⟩ := hrel
      clear I1 I2 I3 I4 hz1
      by_cases hlt : y < H
      · have hyW : y * W + W ≤ W * H := by rw [Nat.mul_comm W H, ← Nat.succ_mul]; exact Nat.mul_le_mul_right _ hlt
        obtain ⟨wo, rfl⟩ : ∃ wo : World, wo = wr := ⟨_, rfl⟩
        go_wp2_with fail
        go_loopw [6, 8] (fun v i wr => ∃ (x c2 : Nat) (A2 : Option Addr), x ≤ W ∧ i = .int .i64 x ∧ v = .slice A2 (y * W + x) c2 ∧ Blk wr (R + 1) 26 #[.slice none 0 0] ∧ wr.cell? ⟨R, 0, none⟩ = some (.slice A H c) ∧ wr.ownsRow (R + 2) 4 1 (.slice A2 (y * W + x) c2) (y * W + x) (bools (bTo bf (y * W + x))) ∧ Below R w wr) (fun _ i _ => W - (intOf i).toNat)
        case atStart => exact ⟨0, _, _, Nat.zero_le _, rfl, rfl, hB0, hc0, hown, hb⟩
        case round =>
          obtain ⟨x, c3, A3, hx, rfl, rfl, hB2, hc2, hown2, hb2⟩ := hrel
          clear hB0 hc0 hown hb
          by_cases hxl : x < W
          · have hlt2 := hB2.lt
            obtain ⟨g, gr, cy, v, rfl, hg, k1, hgr, k3, hv, hbit⟩ := AT.out y x hlt hxl
            replace k1 := (hb2.cell (p := ⟨g, y, none⟩) hg).trans k1
            replace k3 := (hb2.cell (p := ⟨gr, x, none⟩) hgr).trans k3
            have ob := ordT_bd (y % 4 * 4 + x % 4)
            rw [show ordT (y % 4 * 4 + x % 4) = ordAt x y from rfl] at ob
            have TB := Lib.hid (fun V => (tableL_ext V).mono (fun e w' h => (show e = .returned (.slice (some ⟨V.heap.size, 0, none⟩) 16 16) ∧ w'.cell? ⟨V.heap.size, y % 4 * 4 + x % 4, none⟩ = some (.int .i64 (ordAt x y)) ∧ Below V.heap.size V w' from ⟨h.1, (h.2.1.cell _).trans (ordC_get _ (by omega)), h.2.2⟩)))
            have BS := Lib.hid (bTo_succ bf (y * W + x))
            have HB := Lib.hid hbit
            generalize ordAt x y = o at *
            have i0 : (0 : Int) ≤ (y : Int) := by omega
            have i1 : (y : Int) < (H : Int) := by omega
            have i2 : (0 : Int) ≤ (x : Int) := by omega
            have i3 : (x : Int) < (W : Int) := by omega
            have hgb : ∀ z, (Value.slice A3 (y * W + x) c3).ownBlock = some z → R + 2 ≤ z ∧ z < wr.heap.size := fun z hz => hown2.lt z hz
            have HGB := Lib.hid hgb
            clear hbit hgb
            have m1 : (y : Int).tmod 4 = (y : Int) % 4 := Int.tmod_eq_emod_of_nonneg (by omega)
            have m3 : (x : Int).tmod 4 = (x : Int) % 4 := Int.tmod_eq_emod_of_nonneg (by omega)
            have m2 : IntKind.i64.wrap ((y : Int) % 4 * 4) = (y : Int) % 4 * 4 := IntWalk.i64_in _ (by omega)
            have m4 : IntKind.i64.wrap ((y : Int) % 4 * 4 + (x : Int) % 4) = (y : Int) % 4 * 4 + (x : Int) % 4 := IntWalk.i64_in _ (by omega)
            have i4 : (0 : Int) ≤ (y : Int) % 4 * 4 + (x : Int) % 4 := by omega
            have i5 : (y : Int) % 4 * 4 + (x : Int) % 4 < 16 := by omega
            have i6 : ((y : Int) % 4 * 4 + (x : Int) % 4).toNat = y % 4 * 4 + x % 4 := by omega
            have j0 : IntKind.i64.wrap (16 * v) = 16 * v := IntWalk.i64_in _ (by omega)
            have j1 : IntKind.i64.wrap (16 * v + 8) = 16 * v + 8 := IntWalk.i64_in _ (by omega)
            have j2 : IntKind.i64.wrap (100 * o) = 100 * o := IntWalk.i64_in _ (by omega)
            have j3 : IntKind.i64.wrap (100 * o + 50) = 100 * o + 50 := IntWalk.i64_in _ (by omega)
            go_wp2_with fail
            go_region_law (first
                | (refine step_app boolT (by rfl) _ _ (by rfl) (R + 2) (.slice A3 (y * W + x) c3) (y * W + x) (bools (bTo bf (y * W + x))) (by rfl) ((own_ext hb' hown2).alloc _) w'.heap.size #[.bool (bf (y * W + x))] (by rfl) (by rw [HB.out]; exact heap_alloc_new w' _) rfl (by simp [Value.oneCell']) (by omega) (by have := hb'.size; simp at *; omega) ?_; intro g3 cap3 w3 hown3 hgrow3 hat3 hlt3)
                | (go_simp; go_at_call 79; refine (TB.out _).mono ?_; rintro e w' ⟨rfl, cT0, hb'⟩; have cT : w'.cell? ⟨wr.heap.size, y % 4 * 4 + x % 4, none⟩ = _ := cT0; have d1 := (hb'.cell (p := ⟨R, 0, none⟩) (by simp; omega)).trans hc2; have d2 := (hb'.cell (p := ⟨g, y, none⟩) (by simp; omega)).trans k1; have d3 := (hb'.cell (p := ⟨gr, x, none⟩) (by simp; omega)).trans k3; clear cT0))
            all_goals
              have hown4 : w3.ownsRow (R + 2) 4 1 (.slice (some ⟨g3, 0, none⟩) (y * W + (x + 1)) cap3) (y * W + (x + 1)) (bools (bTo bf (y * W + (x + 1)))) := by
                rw [show y * W + (x + 1) = y * W + x + 1 from rfl, BS.out]; simpa [bools] using hown3
              have hB3 : Blk w3 (R + 1) 26 #[.slice none 0 0] := ((Blk.under (w := wr.drew) hB2 hb' hlt2).more _).by_grown hgrow3 (fun e => by have := (HGB.out _ e.symm).1; omega)
              have hb3 : Below R w w3 := (Ext.more (Ext.then_ (Ext.draw (show Below w.heap.size w wr by rw [← HR.out]; exact hb2)) hb') _).mono (by rw [HR.out]; omega) |>.grown hgrow3 (by have := hb'.size; simp at *; omega) (fun z hz => by have := (HGB.out z hz).1; omega)
              have hc3 : w3.cell? ⟨R, 0, none⟩ = some (.slice (some ⟨g, 0, none⟩) H c) := (hgrow3.cell_far ⟨_, _, none⟩ (by have := hb'.size; simp at *; omega) (fun e => by have := HGB.out _ e.symm; simp at this; omega)).trans ((cell_more (by have := hb'.size; simp at *; omega)) ((hb'.cell (p := ⟨R, 0, none⟩) (by simp; omega)).trans hc2))
              clear hown3 hgrow3 hat3 hb' hown2 hB2 hb2 hc2
              go_wp2_with fail
              go_roundw
              case rel => exact ⟨x + 1, cap3, _, by omega, by go_num, rfl, hB3, hc3, hown4, hb3⟩
              case measure => simp [intOf]; omega
          · obtain rfl : x = W := by omega
            go_wp2_with fail
            go_roundw
            case rel => exact ⟨y + 1, _, _, by omega, by go_num, by rw [Nat.add_mul, Nat.one_mul], hB2, hc2, by rw [Nat.add_mul, Nat.one_mul]; exact hown2, hb2⟩
            case measure => simp [intOf]; omega
      · obtain rfl : y = H := by omega
        have M1 := Lib.hid (MH.out A2 c2 wr (by rw [EL.out, Nat.mul_comm W y]; exact Rd.of_own hown))
        rw [Nat.mul_comm W y] at M1
        have hlt2 := hB0.lt
        go_wp2_with fail
        refine M1.out.mono ?_
        rintro e w3 ⟨A3, c3, rfl, hown3, hb3⟩
        have hB3 := hB0.under hb3 hB0.lt
        have c3' := hB3.cell 0
        have f3 := hB3.free 0
        have cs := (hB3.store 0 (.slice A3 y c3)).cell 0
        simp at c3' cs
        have HO := Lib.hid hown3
        clear hown3 M1
        go_wp2_with fail
        refine bodyPost_ret (v := .tuple #[.agg #[.slice A3 y c3], .bool true]) (by simp [results, Try.results34, go_sem, cs]) rfl ⟨A3, c3, by rw [HL.out], ?_, ?_⟩
        · rw [HL.out, ← HR.out]
          exact own_base (ownsRow_setCell_below HO.out (a := ⟨R + 1, 0, none⟩) (by show R + 1 < wr.heap.size; omega) _) (by omega)
        · rw [← HR.out]; exact (hb.trans (hb3.mono (by omega))).setCell (p := ⟨R + 1, 0, none⟩) (by show R ≤ R + 1; omega) _
end Go.Proofs.Ytdbelajgndclfaa
