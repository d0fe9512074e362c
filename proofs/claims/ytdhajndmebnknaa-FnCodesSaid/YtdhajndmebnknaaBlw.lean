/- How many sets of pixels there are up to a level: both sides. -/
import Derived.Test.YtdhajndmebnknaaLabS
import Derived.Test.YtdhajndmebnknaaPsS
namespace Go.Proofs.Ytdhajndmebnknaa
open Go.RowKit

/-- Which pixels have a number up to a level. -/
def lowB (G : Nat → Int) (lvl : Int) (n : Nat) : List Bool := (List.range n).map fun i => decide (G i ≤ lvl)
def belowN (rows : List (List Int)) (lvl : Int) : Nat :=
  (labL (rchB nbF (okI (lowB (gF rows (tabW rows)) lvl (tabW rows * rows.length)) (tabW rows) rows.length) (tabW rows * rows.length)) (spB (lowB (gF rows (tabW rows)) lvl (tabW rows * rows.length)) (tabW rows) (tabW rows * rows.length))).2
theorem belowN_le (rows : List (List Int)) (lvl : Int) : belowN rows lvl ≤ tabW rows * rows.length := by
  unfold belowN
  have h1 := (labL_le (rchB nbF (okI (lowB (gF rows (tabW rows)) lvl (tabW rows * rows.length)) (tabW rows) rows.length) (tabW rows * rows.length)) (spB (lowB (gF rows (tabW rows)) lvl (tabW rows * rows.length)) (tabW rows) (tabW rows * rows.length)) _ (Nat.le_refl _)).1
  rw [List.take_length] at h1
  exact Nat.le_trans h1 (spB_len _ _ _)

/-- The first k pixels turned. -/
def invTo (L : List Bool) (k : Nat) : List Bool := (L.take k).map (fun b => !b) ++ L.drop k
theorem invTo_len (L : List Bool) (k : Nat) : (invTo L k).length = L.length := by simp [invTo]; omega
theorem invTo_at {L : List Bool} {k : Nat} (h : k < L.length) : (invTo L k)[k]'(by rw [invTo_len]; exact h) = L[k] := by
  have hl : ((L.take k).map fun b => !b).length = k := by simp; omega
  simp only [invTo]
  rw [List.getElem_append_right (by omega), List.getElem_drop]
  congr 1
  omega
theorem invTo_set {L : List Bool} {k : Nat} (h : k < L.length) : (invTo L k).set k (!L[k]) = invTo L (k + 1) := by
  have hl : ((L.take k).map fun b => !b).length = k := by simp; omega
  unfold invTo
  rw [List.set_append_right _ _ (by omega), hl, Nat.sub_self, List.drop_eq_getElem_cons h, List.set_cons_zero, List.take_succ_eq_append_getElem h, List.map_append, List.append_assoc]
  rfl
theorem invTo_all {L : List Bool} : invTo L L.length = L.map fun b => !b := by simp [invTo]
theorem bools_set (L : List Bool) (k : Nat) (b : Bool) : (bools L).set k (.bool b) = bools (L.set k b) := by simp [bools, List.map_set]

set_option maxRecDepth 100000 in
set_option maxHeartbeats 2000000 in
theorem invertS_any (mp : Nat) (A0 : Option Addr) (cc : Nat) (rows : List ByteArray) (L : List Bool) (W H : Nat) (w : World) (h : PicAt w mp A0 cc rows) (hok : picOk rows = true) (hL : picBits rows = L) (hWr : picW rows = W) (hHr : rows.length = H) :
    Calls Try.prog 79 #[.pointer (some ⟨mp, 0, none⟩)] w fun e w' => ∃ A c, e = .returned (.agg #[.slice A H c]) ∧
      w'.ownsRow w.heap.size 9 1 (.slice A H c) H (strs (rowsTo (L.map fun b => !b) W H)) ∧ Below w.heap.size w w' := by
  obtain ⟨s1, s2, s3, s4⟩ := picOk_sizes hok
  have B1 : Below w.heap.size w (w.alloc (.cells #[.slice none 0 0] 28)) := Ext.more (Ext.refl _) _
  have T1 := Blk.made w 28 #[.slice none 0 0]
  have P1 := h.ext B1
  have LI := Lib.hid (listP_any mp A0 cc rows _ P1 hok)
  have WD := Lib.hid (fun V (hb : Below (w.heap.size + 1) (w.alloc (.cells #[.slice none 0 0] 28)) V) => width_any mp A0 cc rows V (P1.ext (by rw [World.size_alloc]; exact hb)) (by omega))
  rw [hWr] at s3 s4
  rw [hHr] at s1 s2
  rw [hL, hWr, hHr] at LI
  rw [hWr] at WD
  have hLn : L.length = W * H := by rw [← hL, ← hWr, ← hHr]; simp [picBits]
  have MK := Lib.hid (fun (A : Option Addr) (c : Nat) LB V (hV : Rd V A (bools LB)) (hl : LB.length = W * H) => make_any A c W H LB V hV s3 (by omega) (by omega) hl)
  have nb256 : W * H ≤ 256 := Nat.le_trans (Nat.mul_le_mul s4 s2) (by decide)
  have IA := Lib.hid (fun k (hk : k < L.length) => invTo_at hk)
  have IS := Lib.hid (fun k (hk : k < L.length) => invTo_set hk)
  have IL := Lib.hid (invTo_len L)
  have IE := Lib.hid (invTo_all (L := L))
  have I0 : Hid (invTo L 0 = L) := by simp [Hid, invTo]
  clear h hok hL hWr hHr P1
  obtain ⟨n, hn⟩ : ∃ n, W * H = n := ⟨_, rfl⟩
  rw [hn] at nb256 hLn
  simp only [hn] at LI MK
  have HLN := Lib.hid hLn
  clear hn hLn
  go_enter Try.func79, Try.ntmps79
  go_wp2_with fail
  refine LI.out.mono ?_
  rintro e w2 ⟨A2, c2, rfl, own2, hb2⟩
  have T2 := T1.under hb2 T1.lt
  rw [World.size_alloc] at hb2 own2
  rw [← I0.out] at own2
  clear T1 LI
  go_wp2_with fail
  go_loopw [4, 9] (fun _ i wr => ∃ k : Nat, k ≤ n ∧ i = .int .i64 k ∧ wr.ownsRow (w.heap.size + 1) 4 1 (.slice A2 n c2) n (bools (invTo L k)) ∧ Blk wr w.heap.size 28 #[.slice none 0 0] ∧ Below (w.heap.size + 1) (w.alloc (.cells #[.slice none 0 0] 28)) wr) (fun _ i _ => n - (intOf i).toNat)
  case atStart => exact ⟨0, Nat.zero_le _, rfl, own2, T2, hb2⟩
  case round =>
    obtain ⟨k, hk, rfl, hown, T, hb⟩ := hrel
    clear own2 T2 hb2
    by_cases hlt : k < n
    · rcases hown.2 with ⟨_, h0⟩ | ⟨g, cap, cur, hv, _⟩
      · omega
      · simp only [Value.slice.injEq] at hv
        obtain ⟨rfl, _, rfl⟩ := hv
        have hkL : k < L.length := by rw [HLN.out]; exact hlt
        have hl : k < (bools (invTo L k)).length := by simp only [bools, List.length_map]; rw [IL.out k]; exact hkL
        have c1 := hown.cellAt k (by omega)
        rw [List.getElem?_eq_getElem hl] at c1
        have e1 : (bools (invTo L k))[k]'hl = .bool L[k] := by simp only [bools, List.getElem_map]; rw [IA.out k hkL]
        rw [e1] at c1
        have f1 := hown.frozenAt k
        have hst := hown.stored k (.bool (!L[k]))
        rw [bools_set, IS.out k hkL] at hst
        have hgg := (hown.lt g rfl).1
        have T3 := T.apart (p := ⟨g, k, none⟩) (by show w.heap.size ≠ g; omega) (.bool (!L[k]))
        have B3 := hb.setCell (p := ⟨g, k, none⟩) hgg (.bool (!L[k]))
        have HX := Lib.hid (And.intro hst.1 (And.intro T3 B3))
        have i0 : (0 : Int) ≤ (k : Int) := by omega
        have i1 : (k : Int) < (n : Int) := by omega
        clear hst T3 B3 hown T hb e1
        generalize L[k] = bk at *
        go_wp2_with fail
        go_roundw
        case rel => exact ⟨k + 1, by omega, by go_num, HX.out.1, HX.out.2.1, HX.out.2.2⟩
        case measure => simp [intOf]; omega
    · obtain rfl : k = n := by omega
      have e := IE.out
      rw [HLN.out] at e
      rw [e] at hown
      have M1 := Lib.hid (fun V hV => MK.out A2 c2 (L.map fun b => !b) V hV (by simp [HLN.out]))
      have W1 := Lib.hid (WD.out wr hb)
      have R1 := Lib.hid (Rd.of_own hown)
      clear hown e MK WD IA IS IL IE I0
      have HBW := Lib.hid hb
      have hbz := hb.size
      rw [World.size_alloc] at hbz
      clear hb
      go_wp2_with fail
      refine W1.out.mono ?_
      rintro e w' ⟨rfl, rfl⟩
      go_wp2_with fail
      refine (M1.out _ R1.out).mono ?_
      rintro e w9 ⟨A9, c9, rfl, hown9, hb9⟩
      have hres9 := T.under hb9 T.lt
      have c0 := hres9.cell 0
      have f0 := hres9.free 0
      simp at c0
      have cs := (hres9.store 0 (.slice A9 H c9)).cell 0
      simp at cs
      have HO := Lib.hid hown9
      have E9 : Hid (Below w.heap.size w w9) := by
        have h1 : Below w.heap.size w wr := B1.trans (HBW.out.mono (by omega))
        exact Ext.then_ h1 hb9
      have tl := T.lt
      clear hown9 hb9 hres9 T
      go_wp2_with fail
      refine bodyPost_ret (v := .agg #[.slice A9 H c9]) (by simp [results, Try.results79, go_sem, cs]) rfl ⟨A9, c9, rfl, ?_, ?_⟩
      · exact own_base (ownsRow_setCell_below HO.out (a := ⟨w.heap.size, 0, none⟩) tl _) (by omega)
      · exact E9.out.setCell (p := ⟨w.heap.size, 0, none⟩) (Nat.le_refl _) _

end Go.Proofs.Ytdhajndmebnknaa
