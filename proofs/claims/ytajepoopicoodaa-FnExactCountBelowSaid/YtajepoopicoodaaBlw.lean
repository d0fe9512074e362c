/- How many sets of pixels there are up to a level: both sides. -/
import Derived.Test.YtajepoopicoodaaLabS
import Derived.Test.YtajepoopicoodaaPsS
namespace Go.Proofs.Ytajepoopicoodaa
open Go.RowKit

/-- Which pixels have a number up to a level. -/
def lowB (G : Nat → Int) (lvl : Int) (n : Nat) : List Bool := (List.range n).map fun i => decide (G i ≤ lvl)
def belowN (rows : List (List Int)) (lvl : Int) : Nat :=
  (labL (rchB nbF (okI (lowB (gF rows (tabW rows)) lvl (tabW rows * rows.length)) (tabW rows) rows.length) (tabW rows * rows.length)) (spB (lowB (gF rows (tabW rows)) lvl (tabW rows * rows.length)) (tabW rows) (tabW rows * rows.length))).2
theorem belowN_le (rows : List (List Int)) (lvl : Int) : belowN rows lvl ≤ tabW rows * rows.length := by
  unfold belowN
  have h1 := (labL_le (rchB nbF (okI (lowB (gF rows (tabW rows)) lvl (tabW rows * rows.length)) (tabW rows) rows.length) (tabW rows * rows.length)) (spB (lowB (gF rows (tabW rows)) lvl (tabW rows * rows.length)) (tabW rows) (tabW rows * rows.length)) _ (Nat.le_refl _)).1
  rw [List.take_length] at h1
  exact Nat.le_trans h1 (spB_len _ _ _)

theorem enters_below1 : Enters 101 := enters_of Try.func101 (by kernel_rfl) (by kernel_rfl)
set_option maxHeartbeats 1000000 in
theorem below1_any (p m2 m3 : Nat) (A : Option Addr) (c : Nat) (rows : List (List Int)) (W H : Nat) (lvl : Int) (x y : Nat) (w : World) (h : GreyAt w p A c rows) (hok : greyOk rows = true) (hW : tabW rows = W) (hH : rows.length = H) (hx : x < W) (hy : y < H)
    (h2 : Blk w m2 67 #[.pointer (some ⟨p, 0, none⟩)]) (h3 : Blk w m3 2 #[.int .i64 lvl]) :
    Calls Try.prog 101 (#[.int .i64 x, .int .i64 y] ++ #[.pointer (some ⟨m2, 0, none⟩), .pointer (some ⟨m3, 0, none⟩)]) w fun e w' => e = .returned (.bool (decide (gF rows W (y * W + x) ≤ lvl))) ∧ Below w.heap.size w w' := by
  have hy' : y < rows.length := by omega
  have hx' : x < rows[y].length := by rw [tab_row hok y hy', hW]; exact hx
  obtain ⟨g, gr, cy, rfl, hg, k1, hgr, k2⟩ := h.rd.num hy' hx'
  have k0 := h.cell
  have c2 := h2.cell 0
  have c3 := h3.cell 0
  simp at c2 c3
  rw [gF_at hx hy' hx']
  rw [tab_row hok y hy', hW] at k1
  rw [hH] at k0
  have j0 : (0 : Int) ≤ (y : Int) := by omega
  have j1 : (y : Int) < (H : Int) := by omega
  have j2 : (0 : Int) ≤ (x : Int) := by omega
  have j3 : (x : Int) < (W : Int) := by omega
  clear h hok hW hH h2 h3
  generalize rows[y][x] = v at *
  go_enter Try.func101, Try.ntmps101
  go_wp2_with fail
  go_quiet (fail)
  go_wp2_with fail
  go_ret
  exact ⟨rfl, Ext.drawN (Ext.refl _) _⟩

set_option maxRecDepth 100000 in
set_option maxHeartbeats 2000000 in
theorem below_any (p : Nat) (A : Option Addr) (c : Nat) (rows : List (List Int)) (lvl : Int) (w : World) (h : GreyAt w p A c rows) (hok : greyOk rows = true) :
    Calls Try.prog 79 #[.pointer (some ⟨p, 0, none⟩), .int .i64 lvl] w fun e w' => e = .returned (.int .i64 (belowN rows lvl : Nat)) ∧ Below w.heap.size w w' := by
  have hmf : ∀ (fn : Fn) (first cap : Array Value) (w : World), (Instr.makeFunc fn first cap).run Try.prog w = .ok (.func fn first cap) w := fun _ _ _ _ => rfl
  obtain ⟨s1, s2, s3, s4⟩ := tab_sizes hok
  obtain ⟨wB, hwB⟩ : ∃ wB, (w.alloc (.cells #[.pointer (some ⟨p, 0, none⟩)] 67)).alloc (.cells #[.int .i64 lvl] 2) = wB := ⟨_, rfl⟩
  have T2 : Blk wB w.heap.size 67 #[.pointer (some ⟨p, 0, none⟩)] := by rw [← hwB]; exact (Blk.made w _ _).more _
  have T3 : Blk wB (w.heap.size + 1) 2 #[.int .i64 lvl] := by
    have := Blk.made (w.alloc (.cells #[.pointer (some ⟨p, 0, none⟩)] 67)) 2 #[.int .i64 lvl]
    rw [hwB] at this; simpa using this
  have B1 : Below w.heap.size w wB := by rw [← hwB]; exact Ext.more (Ext.more (Ext.refl _) _) _
  have SZ := Lib.hid (sizes_any p A c rows wB (h.ext B1) s1)
  have c2 := T2.cell 0
  simp at c2
  have MA := Lib.hid (fun V (hb : Below wB.heap.size wB V) => made_any (tabW rows) rows.length 101 #[.pointer (some ⟨w.heap.size, 0, none⟩), .pointer (some ⟨w.heap.size + 1, 0, none⟩)] (fun i => decide (gF rows (tabW rows) i ≤ lvl)) V (by omega) (by omega) enters_below1
    (fun x y hx hy wr hb2 => below1_any p w.heap.size (w.heap.size + 1) A c rows (tabW rows) rows.length lvl x y wr (h.ext (Ext.then_ B1 (Ext.then_ hb hb2))) hok rfl rfl hx hy (T2.under (Ext.then_ hb hb2) T2.lt) (T3.under (Ext.then_ hb hb2) T3.lt)))
  have LA := Lib.hid (fun p g L V (hV : Img V p g (tabW rows) rows.length L) => labels_any nbT_four (by omega) p g (tabW rows) rows.length L V hV (by omega) (by omega) s3)
  have E : Hid (belowN rows lvl = (labL (rchB nbF (okI ((List.range (tabW rows * rows.length)).map fun i => decide (gF rows (tabW rows) i ≤ lvl)) (tabW rows) rows.length) (tabW rows * rows.length)) (spB ((List.range (tabW rows * rows.length)).map fun i => decide (gF rows (tabW rows) i ≤ lvl)) (tabW rows) (tabW rows * rows.length))).2) := rfl
  rw [E.out]
  clear h hok E s1 s2 s3 s4 T2 T3
  generalize (List.range (tabW rows * rows.length)).map (fun i => decide (gF rows (tabW rows) i ≤ lvl)) = LB at *
  generalize (fun i => decide (gF rows (tabW rows) i ≤ lvl)) = bf at *
  generalize tabW rows = W at *
  generalize rows.length = H at *
  go_enter Try.func79, Try.ntmps79
  go_wp2_with fail
  try simp only [hwB]
  refine SZ.out.mono ?_
  rintro e w2 ⟨rfl, nd, rfl⟩
  have hb : Below wB.heap.size wB (wB.drewN nd) := Ext.drawN (Ext.refl _) _
  generalize wB.drewN nd = w2 at *
  go_wp2_with fail
  refine (MA.out w2 hb).mono ?_
  rintro e w3 ⟨q, g, rfl, hI, _, _, hb3⟩
  go_wp2_with fail
  refine (LA.out _ _ _ _ hI).mono ?_
  rintro e w4 ⟨rfl, _, hb4⟩
  have B4 := Ext.then_ B1 (Ext.then_ hb (Ext.then_ hb3 hb4))
  clear MA LA SZ hI hb3 hb4 hb
  go_wp2_with fail
  go_ret
  exact ⟨rfl, B4⟩

/-- The first k pixels turned. -/
def invTo (L : List Bool) (k : Nat) : List Bool := (L.take k).map (fun b => !b) ++ L.drop k
theorem invTo_len (L : List Bool) (k : Nat) : (invTo L k).length = L.length := by simp [invTo]; omega
theorem invTo_at {L : List Bool} {k : Nat} (h : k < L.length) : (invTo L k)[k]'(by rw [invTo_len]; exact h) = L[k] := by
  have hl : ((L.take k).map fun b => !b).length = k := by simp; omega
  simp only [invTo]
  rw [List.getElem_append_right (by omega), List.getElem_drop]
  congr 1
  omega
theorem invTo_set {L : List Bool} {k : Nat} (h : k < L.length) : (invTo L k).set k (!L[k]) = invTo L (k + 1) := by
  have hl : ((L.take k).map fun b => !b).length = k := by simp; omega
  unfold invTo
  rw [List.set_append_right _ _ (by omega), hl, Nat.sub_self, List.drop_eq_getElem_cons h, List.set_cons_zero, List.take_succ_eq_append_getElem h, List.map_append, List.append_assoc]
  rfl
theorem invTo_all {L : List Bool} : invTo L L.length = L.map fun b => !b := by simp [invTo]
theorem bools_set (L : List Bool) (k : Nat) (b : Bool) : (bools L).set k (.bool b) = bools (L.set k b) := by simp [bools, List.map_set]

set_option maxRecDepth 100000 in
set_option maxHeartbeats 2000000 in
theorem invertS_any (mp : Nat) (A0 : Option Addr) (cc : Nat) (rows : List ByteArray) (L : List Bool) (W H : Nat) (w : World) (h : PicAt w mp A0 cc rows) (hok : picOk rows = true) (hL : picBits rows = L) (hWr : picW rows = W) (hHr : rows.length = H) :
    Calls Try.prog 98 #[.pointer (some ⟨mp, 0, none⟩)] w fun e w' => ∃ A c, e = .returned (.agg #[.slice A H c]) ∧
      w'.ownsRow w.heap.size 9 1 (.slice A H c) H (strs (rowsTo (L.map fun b => !b) W H)) ∧ Below w.heap.size w w' := by
  obtain ⟨s1, s2, s3, s4⟩ := picOk_sizes hok
  have B1 : Below w.heap.size w (w.alloc (.cells #[.slice none 0 0] 112)) := Ext.more (Ext.refl _) _
  have T1 := Blk.made w 112 #[.slice none 0 0]
  have P1 := h.ext B1
  have LI := Lib.hid (listP_any mp A0 cc rows _ P1 hok)
  have WD := Lib.hid (fun V (hb : Below (w.heap.size + 1) (w.alloc (.cells #[.slice none 0 0] 112)) V) => width_any mp A0 cc rows V (P1.ext (by rw [World.size_alloc]; exact hb)) (by omega))
  rw [hWr] at s3 s4
  rw [hHr] at s1 s2
  rw [hL, hWr, hHr] at LI
  rw [hWr] at WD
  have hLn : L.length = W * H := by rw [← hL, ← hWr, ← hHr]; simp [picBits]
  have MK := Lib.hid (fun (A : Option Addr) (c : Nat) LB V (hV : Rd V A (bools LB)) (hl : LB.length = W * H) => make_any A c W H LB V hV s3 (by omega) (by omega) hl)
  have nb256 : W * H ≤ 256 := Nat.le_trans (Nat.mul_le_mul s4 s2) (by decide)
  have IA := Lib.hid (fun k (hk : k < L.length) => invTo_at hk)
  have IS := Lib.hid (fun k (hk : k < L.length) => invTo_set hk)
  have IL := Lib.hid (invTo_len L)
  have IE := Lib.hid (invTo_all (L := L))
  have I0 : Hid (invTo L 0 = L) := by simp [Hid, invTo]
  clear h hok hL hWr hHr P1
  obtain ⟨n, hn⟩ : ∃ n, W * H = n := ⟨_, rfl⟩
  rw [hn] at nb256 hLn
  simp only [hn] at LI MK
  have HLN := Lib.hid hLn
  clear hn hLn
  go_enter Try.func98, Try.ntmps98
  go_wp2_with fail
  refine LI.out.mono ?_
  rintro e w2 ⟨A2, c2, rfl, own2, hb2⟩
  have T2 := T1.under hb2 T1.lt
  rw [World.size_alloc] at hb2 own2
  rw [← I0.out] at own2
  clear T1 LI
  go_wp2_with fail
  go_loopw [4, 9] (fun _ i wr => ∃ k : Nat, k ≤ n ∧ i = .int .i64 k ∧ wr.ownsRow (w.heap.size + 1) 4 1 (.slice A2 n c2) n (bools (invTo L k)) ∧ Blk wr w.heap.size 112 #[.slice none 0 0] ∧ Below (w.heap.size + 1) (w.alloc (.cells #[.slice none 0 0] 112)) wr) (fun _ i _ => n - (intOf i).toNat)
  case atStart => exact ⟨0, Nat.zero_le _, rfl, own2, T2, hb2⟩
  case round =>
    obtain ⟨k, hk, rfl, hown, T, hb⟩ := hrel
    clear own2 T2 hb2
    by_cases hlt : k < n
    · rcases hown.2 with ⟨_, h0⟩ | ⟨g, cap, cur, hv, _⟩
      · omega
      · simp only [Value.slice.injEq] at hv
        obtain ⟨rfl, _, rfl⟩ := hv
        have hkL : k < L.length := by rw [HLN.out]; exact hlt
        have hl : k < (bools (invTo L k)).length := by simp only [bools, List.length_map]; rw [IL.out k]; exact hkL
        have c1 := hown.cellAt k (by omega)
        rw [List.getElem?_eq_getElem hl] at c1
        have e1 : (bools (invTo L k))[k]'hl = .bool L[k] := by simp only [bools, List.getElem_map]; rw [IA.out k hkL]
        rw [e1] at c1
        have f1 := hown.frozenAt k
        have hst := hown.stored k (.bool (!L[k]))
        rw [bools_set, IS.out k hkL] at hst
        have hgg := (hown.lt g rfl).1
        have T3 := T.apart (p := ⟨g, k, none⟩) (by show w.heap.size ≠ g; omega) (.bool (!L[k]))
        have B3 := hb.setCell (p := ⟨g, k, none⟩) hgg (.bool (!L[k]))
        have HX := Lib.hid (And.intro hst.1 (And.intro T3 B3))
        have i0 : (0 : Int) ≤ (k : Int) := by omega
        have i1 : (k : Int) < (n : Int) := by omega
        clear hst T3 B3 hown T hb e1
        generalize L[k] = bk at *
        go_wp2_with fail
        go_roundw
        case rel => exact ⟨k + 1, by omega, by go_num, HX.out.1, HX.out.2.1, HX.out.2.2⟩
        case measure => simp [intOf]; omega
    · obtain rfl : k = n := by omega
      have e := IE.out
      rw [HLN.out] at e
      rw [e] at hown
      have M1 := Lib.hid (fun V hV => MK.out A2 c2 (L.map fun b => !b) V hV (by simp [HLN.out]))
      have W1 := Lib.hid (WD.out wr hb)
      have R1 := Lib.hid (Rd.of_own hown)
      clear hown e MK WD IA IS IL IE I0
      have HBW := Lib.hid hb
      have hbz := hb.size
      rw [World.size_alloc] at hbz
      clear hb
      go_wp2_with fail
      refine W1.out.mono ?_
      rintro e w' ⟨rfl, rfl⟩
      go_wp2_with fail
      refine (M1.out _ R1.out).mono ?_
      rintro e w9 ⟨A9, c9, rfl, hown9, hb9⟩
      have hres9 := T.under hb9 T.lt
      have c0 := hres9.cell 0
      have f0 := hres9.free 0
      simp at c0
      have cs := (hres9.store 0 (.slice A9 H c9)).cell 0
      simp at cs
      have HO := Lib.hid hown9
      have E9 : Hid (Below w.heap.size w w9) := by
        have h1 : Below w.heap.size w wr := B1.trans (HBW.out.mono (by omega))
        exact Ext.then_ h1 hb9
      have tl := T.lt
      clear hown9 hb9 hres9 T
      go_wp2_with fail
      refine bodyPost_ret (v := .agg #[.slice A9 H c9]) (by simp [results, Try.results98, go_sem, cs]) rfl ⟨A9, c9, rfl, ?_, ?_⟩
      · exact own_base (ownsRow_setCell_below HO.out (a := ⟨w.heap.size, 0, none⟩) tl _) (by omega)
      · exact E9.out.setCell (p := ⟨w.heap.size, 0, none⟩) (Nat.le_refl _) _

set_option maxRecDepth 100000 in
set_option maxHeartbeats 2000000 in
theorem thresholdS_any (p : Nat) (A : Option Addr) (c : Nat) (rows : List (List Int)) (lvl : Int) (W H n : Nat) (w : World) (h : GreyAt w p A c rows) (g : GreyN rows W H n) :
    Calls Try.prog 97 #[.pointer (some ⟨p, 0, none⟩), .int .i64 lvl] w fun e w' => ∃ A c, e = .returned (.agg #[.slice A H c]) ∧
      w'.ownsRow w.heap.size 9 1 (.slice A H c) H (strs (rowsTo (bTo (fun i => decide (lvl ≤ gF rows W i)) n) W H)) ∧ Below w.heap.size w w' := by
  obtain ⟨x1, x2, x3, x4⟩ := g.w1
  have hn := g.n
  have nb256 : n ≤ 256 := by rw [hn]; exact Nat.le_trans (Nat.mul_le_mul x2 x4) (by decide)
  have B1 : Below w.heap.size w (w.alloc (.cells #[.slice none 0 0] 112)) := Ext.more (Ext.refl _) _
  have T1 := Blk.made w 112 #[.slice none 0 0]
  have B2 := Ext.more B1 (.cells #[] 4)
  have T2 := T1.more (.cells #[] 4)
  have k0 := (h.ext B2).cell
  rw [g.h] at k0
  have LI := Lib.hid (list_any A c rows W H n _ (h.ext B2).rd g.h g.row x1 x2 x4 (by rw [hn, Nat.mul_comm]))
  have WD := Lib.hid (fun V (hb : Below w.heap.size w V) => widthG_any p A c rows V (h.ext hb) (by have := g.h; omega))
  rw [g.w] at WD
  have MK := Lib.hid (fun (A : Option Addr) (c : Nat) LB V (hV : Rd V A (bools LB)) (hl : LB.length = W * H) => make_any A c W H LB V hV x1 (by omega) (by omega) hl)
  rw [← hn] at MK
  have GG := Lib.hid g.get
  have GL := Lib.hid g.len
  have hrow0 := World.ownsRow_lit (e := 4) (size := 1) (w.alloc (.cells #[.slice none 0 0] 112)) #[] 0 (Nat.le_refl _) (by decide) rfl
  rw [World.size_alloc] at hrow0
  have BS := Lib.hid (bTo_succ fun i => decide (lvl ≤ gF rows W i))
  have BL := Lib.hid (bTo_length (fun i => decide (lvl ≤ gF rows W i)) n)
  have Z0 : Hid (bTo (fun i => decide (lvl ≤ gF rows W i)) 0 = []) := rfl
  clear h hn
  generalize gF rows W = G at *
  generalize rows.flatten = fl at *
  clear g
  go_enter Try.func97, Try.ntmps97
  go_wp2_with fail
  refine LI.out.mono ?_
  rintro e w2 ⟨A2, c2, rfl, own2, hb2⟩
  have T3 := T2.under hb2 T2.lt
  have B3 := Ext.then_ B2 hb2
  have R2 := Lib.hid (Rd.of_own own2)
  have OB := own_ext hb2 hrow0
  have NE : Hid (∀ b, A2 = some ⟨b, 0, none⟩ → b ≠ w.heap.size + 1) := by
    intro b hb'
    have h1 := (own2.lt b (by rw [hb']; rfl)).1
    simp only [World.size_alloc] at h1
    omega
  have hz := hb2.size
  clear own2 T1 T2 LI hrow0 k0 hb2
  go_wp2_with fail
  generalize hwb : (w.alloc (.cells #[.slice none 0 0] 112)).alloc (.cells #[] 4) = wb at *
  clear hwb
  go_loopw [5, 7, 16] (fun v _ i wr => ∃ k gb cb : Nat, k ≤ n ∧ i = .int .i64 k ∧ v = .slice (some ⟨gb, 0, none⟩) k cb ∧ wr.ownsRow (w.heap.size + 1) 4 1 (.slice (some ⟨gb, 0, none⟩) k cb) k (bools (bTo (fun i => decide (lvl ≤ G i)) k)) ∧ Blk wr w.heap.size 112 #[.slice none 0 0] ∧ Rd wr A2 (ints fl) ∧ (∀ b, A2 = some ⟨b, 0, none⟩ → b ≠ gb) ∧ Below w.heap.size w wr) (fun _ _ i _ => n - (intOf i).toNat)
  case atStart => exact ⟨0, w.heap.size + 1, 0, Nat.zero_le _, rfl, rfl, by rw [Z0.out]; exact OB, T3, R2.out, NE.out, B3⟩
  case round =>
    obtain ⟨k, gb, cb, hk, rfl, rfl, hown, T, R, hne, hb⟩ := hrel
    clear OB T3 R2 B3
    have HNE := Lib.hid hne
    clear hne
    by_cases hlt : k < n
    · have hkf : k < fl.length := by rw [GL.out]; exact hlt
      obtain ⟨g2, rfl, hg2, hc2⟩ := R (by simp [ints]; omega)
      have c1 := hc2 k (by simpa [ints] using hkf)
      have e1 : (ints fl)[k]'(by simpa [ints] using hkf) = .int .i64 (G k) := by
        rw [← GG.out k hlt, List.getD_eq_getElem?_getD, List.getElem?_eq_getElem hkf]; simp [ints]
      rw [e1] at c1
      have n2 := HNE.out g2 rfl
      have i0 : (0 : Int) ≤ (k : Int) := by omega
      have i1 : (k : Int) < (n : Int) := by omega
      have BK := Lib.hid (BS.out k)
      have HT := Lib.hid T
      have HR := Lib.hid R
      have hsz := T.lt
      have hgg := hown.lt gb rfl
      have HO := Lib.hid hown
      clear T R hc2 e1
      generalize G k = gv at *
      go_wp2_with (at_builtin; refine wpList_app boolT (by rfl) _ _ (by rfl) (w.heap.size + 1) (.slice (some ⟨gb, 0, none⟩) k cb) k (bools (bTo (fun i => decide (lvl ≤ G i)) k)) (by rfl) (hown.alloc _) wr.heap.size #[.bool (decide (lvl ≤ gv))] (by rfl) (heap_alloc_new _ _) rfl (by simp [Value.oneCell']) (by omega) (by simp; omega) ?_; intro g3 cap3 w3 hown3 hgrow3 hat3 hlt3)
      have OW3 : Hid (w3.ownsRow (w.heap.size + 1) 4 1 (.slice (some ⟨g3, 0, none⟩) (k + 1) cap3) (k + 1) (bools (bTo (fun i => decide (lvl ≤ G i)) (k + 1)))) := by
        rw [Hid, BK.out]; simpa [bools] using hown3
      have T4 : Hid (Blk w3 w.heap.size 112 #[.slice none 0 0]) := (HT.out.more _).by_grown hgrow3 (by simp [Value.ownBlock]; omega)
      have R4 : Hid (Rd w3 (some ⟨g2, 0, none⟩) (ints fl)) := by
        intro hl
        obtain ⟨g', e', h1, h2⟩ := HR.out hl
        cases e'
        refine ⟨g2, rfl, Nat.lt_of_lt_of_le h1 (by have := hgrow3.size; simp at this; omega), fun i hi => ?_⟩
        exact (hgrow3.cell_far ⟨g2, i, none⟩ (by simp; omega) (by simp [Value.ownBlock]; omega)).trans (cell_more h1 (h2 i hi))
      have NE4 : Hid (∀ b, (some ⟨g2, 0, none⟩ : Option Addr) = some ⟨b, 0, none⟩ → b ≠ g3) := by
        intro b hb'
        cases hb'
        rcases hat3 with h | h
        · have h' : gb = g3 := by simpa [Value.ownBlock] using h
          omega
        · simp at h; omega
      have B4 : Below w.heap.size w w3 := (hb.alloc (by omega) _).grown hgrow3 (by simp; omega) (fun z hz => by simp [Value.ownBlock] at hz; omega)
      clear hown3 hgrow3 hat3 hown
      go_roundw
      case rel => exact ⟨k + 1, g3, cap3, by omega, by go_num, rfl, OW3.out, T4.out, R4.out, NE4.out, B4⟩
      case measure => simp [intOf]; omega
    · obtain rfl : k = n := by omega
      have M1 := Lib.hid (fun V hV => MK.out (some ⟨gb, 0, none⟩) cb (bTo (fun i => decide (lvl ≤ G i)) k) V hV BL.out)
      have W1 := Lib.hid (WD.out wr hb)
      have R1 := Lib.hid (Rd.of_own hown)
      have HB := Lib.hid hb
      have tl := T.lt
      clear hown MK WD R BS hb
      go_wp2_with fail
      refine W1.out.mono ?_
      rintro e w' ⟨rfl, rfl⟩
      go_wp2_with fail
      refine (M1.out _ R1.out).mono ?_
      rintro e w9 ⟨A9, c9, rfl, hown9, hb9⟩
      have hres9 := T.under hb9 T.lt
      have c0 := hres9.cell 0
      have f0 := hres9.free 0
      simp at c0
      have cs := (hres9.store 0 (.slice A9 H c9)).cell 0
      simp at cs
      have HO := Lib.hid hown9
      have E9 := Lib.hid (Ext.then_ HB.out hb9)
      clear hown9 hb9 hres9 T
      go_wp2_with fail
      refine bodyPost_ret (v := .agg #[.slice A9 H c9]) (by simp [results, Try.results97, go_sem, cs]) rfl ⟨A9, c9, rfl, ?_, ?_⟩
      · exact own_base (ownsRow_setCell_below HO.out (a := ⟨w.heap.size, 0, none⟩) tl _) (by omega)
      · exact E9.out.setCell (p := ⟨w.heap.size, 0, none⟩) (Nat.le_refl _) _

set_option maxRecDepth 100000 in
set_option maxHeartbeats 2000000 in
theorem belowS_any (p : Nat) (A : Option Addr) (c : Nat) (rows : List (List Int)) (lvl : Int) (w : World) (h : GreyAt w p A c rows) (hok : greyOk rows = true) (hl : 0 ≤ lvl ∧ lvl ≤ 99) :
    Calls Try.prog 77 #[.pointer (some ⟨p, 0, none⟩), .int .i64 lvl] w fun e w' => e = .returned (.int .i64 (belowN rows lvl : Nat)) ∧ Below w.heap.size w w' := by
  have g : GreyN rows (tabW rows) rows.length (tabW rows * rows.length) := ⟨hok, rfl, rfl, rfl⟩
  obtain ⟨x1, x2, x3, x4⟩ := g.w1
  have TH := Lib.hid (thresholdS_any p A c rows (lvl + 1) _ _ _ w h g)
  have E1 : (bTo (fun i => decide (lvl + 1 ≤ gF rows (tabW rows) i)) (tabW rows * rows.length)).map (fun b => !b) = lowB (gF rows (tabW rows)) lvl (tabW rows * rows.length) := by
    unfold bTo lowB
    rw [List.map_map]
    apply List.map_congr_left
    intro i _
    simp only [Function.comp]
    by_cases hh : gF rows (tabW rows) i ≤ lvl
    · have : ¬ (lvl + 1 ≤ gF rows (tabW rows) i) := by omega
      simp [hh, this]
    · have : lvl + 1 ≤ gF rows (tabW rows) i := by omega
      simp [hh, this]
  have hlen : (bTo (fun i => decide (lvl + 1 ≤ gF rows (tabW rows) i)) (tabW rows * rows.length)).length = tabW rows * rows.length := bTo_length _ _
  have hlen2 : (lowB (gF rows (tabW rows)) lvl (tabW rows * rows.length)).length = tabW rows * rows.length := by simp [lowB]
  have IV := Lib.hid (fun q A c V (hV : PicAt V q A c (rowsTo (bTo (fun i => decide (lvl + 1 ≤ gF rows (tabW rows) i)) (tabW rows * rows.length)) (tabW rows) rows.length)) => invertS_any q A c _ _ (tabW rows) rows.length V hV (told_ok x1 x2 x3 x4) (told_bits x3 hlen) (told_w x3) (rowsTo_length _ _ _))
  rw [E1] at IV
  have LB := Lib.hid (fun q A c V (hV : PicAt V q A c (rowsTo (lowB (gF rows (tabW rows)) lvl (tabW rows * rows.length)) (tabW rows) rows.length)) => labelsS_any stT_four q A c _ _ (tabW rows) rows.length V hV (told_ok x1 x2 x3 x4) (told_bits x3 hlen2) (told_w x3) (rowsTo_length _ _ _))
  rw [nbD_four] at LB
  have RL := Lib.hid (fun LL => rowsTo_length LL (tabW rows) rows.length)
  have E : Hid (belowN rows lvl = (labL (rchB nbF (okI (lowB (gF rows (tabW rows)) lvl (tabW rows * rows.length)) (tabW rows) rows.length) (tabW rows * rows.length)) (spB (lowB (gF rows (tabW rows)) lvl (tabW rows * rows.length)) (tabW rows) (tabW rows * rows.length))).2) := rfl
  rw [E.out]
  clear h hok E E1 hlen hlen2 g x1 x2 x3 x4
  generalize lowB (gF rows (tabW rows)) lvl (tabW rows * rows.length) = L2 at *
  generalize bTo (fun i => decide (lvl + 1 ≤ gF rows (tabW rows) i)) (tabW rows * rows.length) = L1 at *
  generalize tabW rows = W at *
  generalize rows.length = H at *
  obtain ⟨l0, l1⟩ := hl
  go_enter Try.func77, Try.ntmps77
  go_wp2_with fail
  refine TH.out.mono ?_
  rintro e w2 ⟨A2, c2, rfl, own2, hb2⟩
  have P2 : PicAt (w2.alloc (.cells #[.slice A2 H c2] 112)) w2.heap.size A2 c2 (rowsTo L1 W H) := by
    refine ⟨by simp, ?_, ?_⟩
    · rw [RL.out]; exact cell_new _ _ _ _
    · exact (Rd.of_own own2).ext (Ext.more (Ext.refl _) (.cells #[.slice A2 H c2] 112))
  have B2 := Ext.more hb2 (.cells #[.slice A2 H c2] 112)
  have I1 := Lib.hid (IV.out _ _ _ _ P2)
  clear own2 hb2 P2 TH IV
  go_wp2_with fail
  refine I1.out.mono ?_
  rintro e w3 ⟨A3, c3, rfl, own3, hb3⟩
  have P3 : PicAt (w3.alloc (.cells #[.slice A3 H c3] 112)) w3.heap.size A3 c3 (rowsTo L2 W H) := by
    refine ⟨by simp, ?_, ?_⟩
    · rw [RL.out]; exact cell_new _ _ _ _
    · exact (Rd.of_own own3).ext (Ext.more (Ext.refl _) (.cells #[.slice A3 H c3] 112))
  have B3 := Ext.then_ B2 (Ext.more hb3 (.cells #[.slice A3 H c3] 112))
  have L1 := Lib.hid (LB.out _ _ _ _ P3)
  clear own3 hb3 P3 I1 LB B2
  go_wp2_with fail
  refine L1.out.mono ?_
  rintro e w4 ⟨rfl, _, hb4⟩
  have B4 := Ext.then_ B3 hb4
  clear L1 B3 hb4
  go_wp2_with fail
  go_ret
  exact ⟨rfl, B4⟩
end Go.Proofs.Ytajepoopicoodaa
