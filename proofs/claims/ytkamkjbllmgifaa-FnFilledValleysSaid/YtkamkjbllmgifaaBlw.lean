/- How many sets of pixels there are up to a level: both sides. -/
import Derived.Test.YtkamkjbllmgifaaLabS
import Derived.Test.YtkamkjbllmgifaaPsS
namespace Go.Proofs.Ytkamkjbllmgifaa
open Go.RowKit

/-- Which pixels have a number up to a level. -/
def lowB (G : Nat → Int) (lvl : Int) (n : Nat) : List Bool := (List.range n).map fun i => decide (G i ≤ lvl)
def belowN (rows : List (List Int)) (lvl : Int) : Nat :=
  (labL (rchB nbF (okI (lowB (gF rows (tabW rows)) lvl (tabW rows * rows.length)) (tabW rows) rows.length) (tabW rows * rows.length)) (spB (lowB (gF rows (tabW rows)) lvl (tabW rows * rows.length)) (tabW rows) (tabW rows * rows.length))).2
theorem belowN_le (rows : List (List Int)) (lvl : Int) : belowN rows lvl ≤ tabW rows * rows.length := by
  unfold belowN
  have h1 := (labL_le (rchB nbF (okI (lowB (gF rows (tabW rows)) lvl (tabW rows * rows.length)) (tabW rows) rows.length) (tabW rows * rows.length)) (spB (lowB (gF rows (tabW rows)) lvl (tabW rows * rows.length)) (tabW rows) (tabW rows * rows.length)) _ (Nat.le_refl _)).1
  rw [List.take_length] at h1
  exact Nat.le_trans h1 (spB_len _ _ _)

theorem enters_below1 : Enters 88 := enters_of Try.func88 (by kernel_rfl) (by kernel_rfl)
set_option maxHeartbeats 1000000 in
theorem below1_any (p m2 m3 : Nat) (A : Option Addr) (c : Nat) (rows : List (List Int)) (W H : Nat) (lvl : Int) (x y : Nat) (w : World) (h : GreyAt w p A c rows) (hok : greyOk rows = true) (hW : tabW rows = W) (hH : rows.length = H) (hx : x < W) (hy : y < H)
    (h2 : Blk w m2 76 #[.pointer (some ⟨p, 0, none⟩)]) (h3 : Blk w m3 2 #[.int .i64 lvl]) :
    Calls Try.prog 88 (#[.int .i64 x, .int .i64 y] ++ #[.pointer (some ⟨m2, 0, none⟩), .pointer (some ⟨m3, 0, none⟩)]) w fun e w' => e = .returned (.bool (decide (gF rows W (y * W + x) ≤ lvl))) ∧ Below w.heap.size w w' := by
  have hy' : y < rows.length := by omega
  have hx' : x < rows[y].length := by rw [tab_row hok y hy', hW]; exact hx
  obtain ⟨g, gr, cy, rfl, hg, k1, hgr, k2⟩ := h.rd.num hy' hx'
  have k0 := h.cell
  have c2 := h2.cell 0
  have c3 := h3.cell 0
  simp at c2 c3
  rw [gF_at hx hy' hx']
  rw [tab_row hok y hy', hW] at k1
  rw [hH] at k0
  have j0 : (0 : Int) ≤ (y : Int) := by omega
  have j1 : (y : Int) < (H : Int) := by omega
  have j2 : (0 : Int) ≤ (x : Int) := by omega
  have j3 : (x : Int) < (W : Int) := by omega
  clear h hok hW hH h2 h3
  generalize rows[y][x] = v at *
  go_enter Try.func88, Try.ntmps88
  go_wp2_with fail
  go_quiet (fail)
  go_wp2_with fail
  go_ret
  exact ⟨rfl, Ext.drawN (Ext.refl _) _⟩

set_option maxRecDepth 100000 in
set_option maxHeartbeats 2000000 in
theorem below_any (p : Nat) (A : Option Addr) (c : Nat) (rows : List (List Int)) (lvl : Int) (w : World) (h : GreyAt w p A c rows) (hok : greyOk rows = true) :
    Calls Try.prog 52 #[.pointer (some ⟨p, 0, none⟩), .int .i64 lvl] w fun e w' => e = .returned (.int .i64 (belowN rows lvl : Nat)) ∧ Below w.heap.size w w' := by
  have hmf : ∀ (fn : Fn) (first cap : Array Value) (w : World), (Instr.makeFunc fn first cap).run Try.prog w = .ok (.func fn first cap) w := fun _ _ _ _ => rfl
  obtain ⟨s1, s2, s3, s4⟩ := tab_sizes hok
  obtain ⟨wB, hwB⟩ : ∃ wB, (w.alloc (.cells #[.pointer (some ⟨p, 0, none⟩)] 76)).alloc (.cells #[.int .i64 lvl] 2) = wB := ⟨_, rfl⟩
  have T2 : Blk wB w.heap.size 76 #[.pointer (some ⟨p, 0, none⟩)] := by rw [← hwB]; exact (Blk.made w _ _).more _
  have T3 : Blk wB (w.heap.size + 1) 2 #[.int .i64 lvl] := by
    have := Blk.made (w.alloc (.cells #[.pointer (some ⟨p, 0, none⟩)] 76)) 2 #[.int .i64 lvl]
    rw [hwB] at this; simpa using this
  have B1 : Below w.heap.size w wB := by rw [← hwB]; exact Ext.more (Ext.more (Ext.refl _) _) _
  have SZ := Lib.hid (sizes_any p A c rows wB (h.ext B1) s1)
  have c2 := T2.cell 0
  simp at c2
  have MA := Lib.hid (fun V (hb : Below wB.heap.size wB V) => made_any (tabW rows) rows.length 88 #[.pointer (some ⟨w.heap.size, 0, none⟩), .pointer (some ⟨w.heap.size + 1, 0, none⟩)] (fun i => decide (gF rows (tabW rows) i ≤ lvl)) V (by omega) (by omega) enters_below1
    (fun x y hx hy wr hb2 => below1_any p w.heap.size (w.heap.size + 1) A c rows (tabW rows) rows.length lvl x y wr (h.ext (Ext.then_ B1 (Ext.then_ hb hb2))) hok rfl rfl hx hy (T2.under (Ext.then_ hb hb2) T2.lt) (T3.under (Ext.then_ hb hb2) T3.lt)))
  have LA := Lib.hid (fun p g L V (hV : Img V p g (tabW rows) rows.length L) => labels_any nbT_four (by omega) p g (tabW rows) rows.length L V hV (by omega) (by omega) s3)
  have E : Hid (belowN rows lvl = (labL (rchB nbF (okI ((List.range (tabW rows * rows.length)).map fun i => decide (gF rows (tabW rows) i ≤ lvl)) (tabW rows) rows.length) (tabW rows * rows.length)) (spB ((List.range (tabW rows * rows.length)).map fun i => decide (gF rows (tabW rows) i ≤ lvl)) (tabW rows) (tabW rows * rows.length))).2) := rfl
  rw [E.out]
  clear h hok E s1 s2 s3 s4 T2 T3
  generalize (List.range (tabW rows * rows.length)).map (fun i => decide (gF rows (tabW rows) i ≤ lvl)) = LB at *
  generalize (fun i => decide (gF rows (tabW rows) i ≤ lvl)) = bf at *
  generalize tabW rows = W at *
  generalize rows.length = H at *
  go_enter Try.func52, Try.ntmps52
  go_wp2_with fail
  try simp only [hwB]
  refine SZ.out.mono ?_
  rintro e w2 ⟨rfl, nd, rfl⟩
  have hb : Below wB.heap.size wB (wB.drewN nd) := Ext.drawN (Ext.refl _) _
  generalize wB.drewN nd = w2 at *
  go_wp2_with fail
  refine (MA.out w2 hb).mono ?_
  rintro e w3 ⟨q, g, rfl, hI, _, _, hb3⟩
  go_wp2_with fail
  refine (LA.out _ _ _ _ hI).mono ?_
  rintro e w4 ⟨rfl, _, hb4⟩
  have B4 := Ext.then_ B1 (Ext.then_ hb (Ext.then_ hb3 hb4))
  clear MA LA SZ hI hb3 hb4 hb
  go_wp2_with fail
  go_ret
  exact ⟨rfl, B4⟩

/-- The first k pixels turned. -/
def invTo (L : List Bool) (k : Nat) : List Bool := (L.take k).map (fun b => !b) ++ L.drop k
theorem invTo_len (L : List Bool) (k : Nat) : (invTo L k).length = L.length := by simp [invTo]; omega
theorem invTo_at {L : List Bool} {k : Nat} (h : k < L.length) : (invTo L k)[k]'(by rw [invTo_len]; exact h) = L[k] := by
  have hl : ((L.take k).map fun b => !b).length = k := by simp; omega
  simp only [invTo]
  rw [List.getElem_append_right (by omega), List.getElem_drop]
  congr 1
  omega
theorem invTo_set {L : List Bool} {k : Nat} (h : k < L.length) : (invTo L k).set k (!L[k]) = invTo L (k + 1) := by
  have hl : ((L.take k).map fun b => !b).length = k := by simp; omega
  unfold invTo
  rw [List.set_append_right _ _ (by omega), hl, Nat.sub_self, List.drop_eq_getElem_cons h, List.set_cons_zero, List.take_succ_eq_append_getElem h, List.map_append, List.append_assoc]
  rfl
theorem invTo_all {L : List Bool} : invTo L L.length = L.map fun b => !b := by simp [invTo]
theorem bools_set (L : List Bool) (k : Nat) (b : Bool) : (bools L).set k (.bool b) = bools (L.set k b) := by simp [bools, List.map_set]

end Go.Proofs.Ytkamkjbllmgifaa
