/- The reference's contracts at pictures with up to 18 columns and rows. Printed by gen_wide.py. -/
import Derived.Test.YtdhajndmebnknaaBlw
import Derived.Test.YtdhajndmebnknaaLabS
namespace Go.Proofs.Ytdhajndmebnknaa
open Go.RowKit

def picOw (rows : List ByteArray) : Bool := decide (0 < rows.length) && (decide (rows.length ≤ 18) && (decide (0 < picW rows) && (decide (picW rows ≤ 18) && rows.all fun r => decide (r.size = picW rows))))
theorem picOw_sizes {rows : List ByteArray} (h : picOw rows = true) : 0 < rows.length ∧ rows.length ≤ 18 ∧ 0 < picW rows ∧ picW rows ≤ 18 := by
  simp only [picOw, Bool.and_eq_true, decide_eq_true_eq] at h
  exact ⟨h.1, h.2.1, h.2.2.1, h.2.2.2.1⟩
theorem picOw_row {rows : List ByteArray} (h : picOw rows = true) {y : Nat} (hy : y < rows.length) : (rows[y]).size = picW rows := by
  simp only [picOw, Bool.and_eq_true, decide_eq_true_eq, List.all_eq_true] at h
  exact h.2.2.2.2 _ (List.getElem_mem hy)
theorem told_ow {L : List Bool} {W H : Nat} (hW0 : 0 < W) (hW : W ≤ 18) (hH0 : 0 < H) (hH : H ≤ 18) : picOw (rowsTo L W H) = true := by
  simp only [picOw, Bool.and_eq_true, decide_eq_true_eq, List.all_eq_true, rowsTo_length, told_w hH0]
  refine ⟨hH0, hH, hW0, hW, fun r hr => ?_⟩
  obtain ⟨y, _, rfl⟩ := List.mem_map.1 hr
  exact rowS_size L W y

set_option maxHeartbeats 400000 in
theorem blackW_any (p : Nat) (A : Option Addr) (c : Nat) (rows : List ByteArray) (x y : Int) (w : World) (h : PicAt w p A c rows) (hok : picOw rows = true) :
    Calls Try.prog 78 #[.pointer (some ⟨p, 0, none⟩), .int .i64 x, .int .i64 y] w fun e w' => e = .returned (.bool (bit (picBits rows) (picW rows) rows.length x y)) ∧ w = w' := by
  obtain ⟨s1, s2, s3, s4⟩ := picOw_sizes hok
  have SH := Lib.hid (hasS_any p A c rows x y w h s1 (by omega) (by omega))
  cases hh : hasB (picW rows) rows.length x y
  · rw [hh] at SH
    have F : Hid (bit (picBits rows) (picW rows) rows.length x y = false) := by
      rw [Hid]
      apply Bool.eq_false_iff.2
      intro hb
      simp only [bit, Bool.and_eq_true, decide_eq_true_eq] at hb
      have : hasB (picW rows) rows.length x y = true := hasB_iff.2 (by omega)
      rw [hh] at this; cases this
    clear hh h s1 s2 s3 s4 hok
    go_enter Try.func78, Try.ntmps78
    go_wp2_with (go_at_call 77; refine SH.out.mono ?_; rintro e w' ⟨rfl, rfl⟩)
    go_ret
    exact ⟨ret_bool F.out.symm, rfl⟩
  · rw [hh] at SH
    obtain ⟨⟨x0, x1⟩, y0, y1⟩ := hasB_iff.1 hh
    obtain ⟨x, rfl⟩ : ∃ k : Nat, x = k := ⟨x.toNat, by omega⟩
    obtain ⟨y, rfl⟩ : ∃ k : Nat, y = k := ⟨y.toNat, by omega⟩
    obtain ⟨g, rfl, hg, hc⟩ := h.row s1
    have c0 := h.cell
    have hy : y < rows.length := by omega
    have c1 := hc y hy
    have e := picOw_row hok hy
    have hx : x < (rows[y]).size := by omega
    have F : Hid (bit (picBits rows) (picW rows) rows.length x y = ((rows[y])[x] == 35)) := by
      rw [Hid, bit_pix (by omega) hy, bytes_at _ _ hx]
    generalize rows[y] = r at *
    have q : ((((r[x]'hx).toNat : Int)) == 35) = (r[x] == 35) := by
      cases hq : r[x] == 35
      · simp only [beq_eq_false_iff_ne, ne_eq] at hq ⊢
        intro h; exact hq (UInt8.toNat_inj.1 (show (r[x]'hx).toNat = 35 by omega))
      · simp only [beq_iff_eq] at hq ⊢
        rw [hq]; rfl
    clear hc h hok
    generalize rows.length = n at *
    have i1 : (0 : Int) ≤ (x : Int) := by omega
    have i2 : (x : Int) < (r.size : Int) := by omega
    have QH := Lib.hid q
    clear hh s1 s2 s3 s4 e q
    go_enter Try.func78, Try.ntmps78
    go_wp2_with (go_at_call 77; refine SH.out.mono ?_; rintro e w' ⟨rfl, rfl⟩)
    go_ret
    exact ⟨ret_bool (by rw [F.out]; exact QH.out), rfl⟩

set_option maxRecDepth 100000 in
set_option maxHeartbeats 1000000 in
theorem listPW_any (p : Nat) (A0 : Option Addr) (c0 : Nat) (rows : List ByteArray) (w : World) (h : PicAt w p A0 c0 rows) (hok : picOw rows = true) :
    Calls Try.prog 94 #[.pointer (some ⟨p, 0, none⟩)] w fun e w' => ∃ A c, e = .returned (.slice A (picW rows * rows.length) c) ∧ w'.ownsRow w.heap.size 4 1 (.slice A (picW rows * rows.length) c) (picW rows * rows.length) (bools (picBits rows)) ∧ Below w.heap.size w w' := by
  obtain ⟨s1, s2, s3, s4⟩ := picOw_sizes hok
  obtain ⟨g, rfl, hg, hc⟩ := h.row s1
  have k0 := h.cell
  have hp := h.lt
  have ROW := Lib.hid (fun y (hy : y < rows.length) => (show ∃ r : ByteArray, r.size = picW rows ∧ w.cell? ⟨g, y, none⟩ = some (.string r) ∧ ∀ x (hx : x < r.size), pix rows (picW rows) (y * picW rows + x) = (((r[x]'hx).toNat : Int) == 35) from by
    refine ⟨rows[y], picOw_row hok hy, hc y hy, fun x hx => ?_⟩
    have hx' : x < picW rows := by have := picOw_row hok hy; omega
    rw [pix_at hy hx', bytes_at _ _ hx]
    cases hq : rows[y][x] == 35
    · simp only [beq_eq_false_iff_ne, ne_eq] at hq
      symm
      simp only [beq_eq_false_iff_ne, ne_eq]
      intro h; exact hq (UInt8.toNat_inj.1 (show (rows[y][x]).toNat = 35 by omega))
    · simp only [beq_iff_eq] at hq
      rw [hq]; rfl))
  have E : Hid (picBits rows = bTo (pix rows (picW rows)) (picW rows * rows.length)) := rfl
  rw [E.out]
  clear E h hok hc
  generalize pix rows (picW rows) = pf at *
  generalize picW rows = W at *
  generalize rows.length = H at *
  have hrow0 := World.ownsRow_lit (e := 4) (size := 1) w #[] 0 (Nat.le_refl _) (by decide) rfl
  have B0 : Below w.heap.size w (w.alloc (.cells #[] 4)) := Ext.more (Ext.refl _) _
  have WH : W * H ≤ 324 := Nat.le_trans (Nat.mul_le_mul s4 s2) (by decide)
  go_enter Try.func94, Try.ntmps94
  go_wp2_with fail
  go_loopw [3, 4, 5] (fun v i _ wr => ∃ (y c : Nat) (A : Option Addr), y ≤ H ∧ i = .int .i64 y ∧ v = .slice A (y * W) c ∧ wr.ownsRow w.heap.size 4 1 (.slice A (y * W) c) (y * W) (bools (bTo pf (y * W))) ∧ Below w.heap.size w wr) (fun _ i _ _ => H - (intOf i).toNat)
  case atStart => exact ⟨0, 0, _, Nat.zero_le _, rfl, by rw [Nat.zero_mul], by rw [Nat.zero_mul]; simpa [bTo, bools] using hrow0, B0⟩
  case round =>
    obtain ⟨y, c, A, hy, rfl, rfl, hown, hb⟩ := hrel
    clear hrow0 B0
    have k0r := (hb.cell (p := ⟨p, 0, none⟩) hp).trans k0
    by_cases hlt : y < H
    · obtain ⟨r, hrs, hr, hpx⟩ := ROW.out y hlt
      have SUCC : Hid ((y + 1) * W = y * W + W) := Nat.succ_mul _ _
      have YB : y * W + W ≤ W * H := by rw [Nat.mul_comm W H, ← Nat.succ_mul]; exact Nat.mul_le_mul_right _ hlt
      have i0 : (0 : Int) ≤ (y : Int) := by omega
      have i1 : (y : Int) < (H : Int) := by omega
      have PX := Lib.hid hpx
      have HRS := Lib.hid hrs
      clear hpx
      go_wp2_with fail
      go_loopw [3, 5] (fun v i wr => ∃ (x c : Nat) (A : Option Addr), x ≤ W ∧ i = .int .i64 x ∧ v = .slice A (y * W + x) c ∧ wr.ownsRow w.heap.size 4 1 (.slice A (y * W + x) c) (y * W + x) (bools (bTo pf (y * W + x))) ∧ Below w.heap.size w wr) (fun _ i _ => W - (intOf i).toNat)
      case atStart => exact ⟨0, _, _, Nat.zero_le _, rfl, rfl, hown, hb⟩
      case round =>
        obtain ⟨x, c2, A2, hx, rfl, rfl, hown2, hb2⟩ := hrel
        clear hown hb k0r
        have k0r := (hb2.cell (p := ⟨p, 0, none⟩) hp).trans k0
        have hrr := (hb2.cell (p := ⟨g, y, none⟩) hg).trans hr
        have hsz := hb2.size
        by_cases hxl : x < W
        · have PX1 := Lib.hid (PX.out x (by omega))
          have BS := Lib.hid (bTo_succ pf (y * W + x))
          have j0 : (0 : Int) ≤ (x : Int) := by omega
          have j1 : (x : Int) < (r.size : Int) := by omega
          go_wp2_with (at_builtin; refine wpList_app boolT (by rfl) _ _ (by rfl) w.heap.size (.slice A2 (y * W + x) c2) (y * W + x) (bools (bTo pf (y * W + x))) (by rfl) (hown2.alloc _) wr.heap.size #[.bool _] (by rfl) (heap_alloc_new _ _) rfl (by simp [Value.oneCell']) (by omega) (by simp; omega) ?_; intro g3 cap3 w3 hown3 hgrow3 hat3 hlt3)
          go_roundw
          case rel =>
            refine ⟨x + 1, cap3, some ⟨g3, 0, none⟩, by omega, by go_num, rfl, ?_, (hb2.alloc hsz _).grown hgrow3 (by simp; omega) (fun z hz => (hown2.lt z hz).1)⟩
            rw [show y * W + (x + 1) = y * W + x + 1 from rfl, BS.out, PX1.out]
            simpa [bools] using hown3
          case measure => simp [intOf]; omega
        · obtain rfl : x = W := by omega
          have j1 : ¬ (x : Int) < (r.size : Int) := by omega
          go_wp2_with fail
          go_roundw
          case rel => exact ⟨y + 1, c2, A2, by omega, by go_num, by rw [SUCC.out], by rw [SUCC.out]; exact hown2, hb2⟩
          case measure => simp [intOf]; omega
    · obtain rfl : y = H := by omega
      go_wp2_with fail
      go_ret
      exact ⟨A, c, by rw [Nat.mul_comm W y]; rfl, by rw [Nat.mul_comm W y]; exact hown, hb⟩

set_option maxRecDepth 100000 in
set_option maxHeartbeats 4000000 in
theorem reachSW_any {eight : Bool} {stl : List (Int × Int)} (ST : StT eight stl) (mp : Nat) (A0 : Option Addr) (cc : Nat) (rows : List ByteArray) (L : List Bool) (W H : Nat) (w : World) (h : PicAt w mp A0 cc rows) (hok : picOw rows = true) (hL : picBits rows = L) (hWr : picW rows = W) (hHr : rows.length = H)
    (ax ay : Nat) (ha : okI L W H ((ax : Int), (ay : Int)) = true) (g0 c0 : Nat) (k0 : w.cell? ⟨g0, 0, none⟩ = some (.int .i64 ax)) (k1 : w.cell? ⟨g0, 1, none⟩ = some (.int .i64 ay)) (hg0 : g0 < w.heap.size) :
    Calls Try.prog 95 #[.pointer (some ⟨mp, 0, none⟩), .slice (some ⟨g0, 0, none⟩) 1 c0, .bool eight] w fun e w' => ∃ A c, e = .returned (.agg #[.slice A H c]) ∧
      w'.ownsRow w.heap.size 9 1 (.slice A H c) H (strs (rowsTo (bTo (rO W (rchF (nbD stl) (okI L W H) (W * H) ((ax : Int), (ay : Int)))) (W * H)) W H)) ∧ Below w.heap.size w w' := by
  obtain ⟨s1, s2, s3, s4⟩ := picOw_sizes hok
  rw [hWr] at s3 s4
  rw [hHr] at s1 s2
  have PX := Lib.hid (fun V (hb : Below w.heap.size w V) => h.ext hb)
  have WD := Lib.hid (fun V (hV : PicAt V mp A0 cc rows) => width_any mp A0 cc rows V hV (by omega))
  have HD := Lib.hid (fun V (hV : PicAt V mp A0 cc rows) => height_any mp A0 cc rows V hV)
  have BK := Lib.hid (fun x y V (hV : PicAt V mp A0 cc rows) => blackW_any mp A0 cc rows x y V hV hok)
  rw [hWr] at WD
  rw [hHr] at HD
  rw [hL, hWr, hHr] at BK
  have BK2 : Hid (∀ x y V, PicAt V mp A0 cc rows → Calls Try.prog 78 #[.pointer (some ⟨mp, 0, none⟩), .int .i64 x, .int .i64 y] V fun e w' => e = .returned (.bool (okI L W H (x, y))) ∧ V = w') := fun x y V hV => BK.out x y V hV
  have MK := Lib.hid (fun (A : Option Addr) (c : Nat) LB V (hV : Rd V A (bools LB)) (hl : LB.length = W * H) => make_any A c W H LB V hV s3 (by omega) (by omega) hl)
  obtain ⟨x', y', e', hax, hay, _⟩ := okI_iff.1 ha
  rw [Prod.mk.injEq] at e'
  obtain ⟨e1', e2'⟩ := e'
  obtain rfl : ax = x' := by omega
  obtain rfl : ay = y' := by omega
  have OB := Lib.hid (okB_I L (W := W) (H := H) (by omega) (by omega))
  have hpl : ay * W + ax < W * H := pl_lt hax hay
  have nb256 : W * H ≤ 324 := Nat.le_trans (Nat.mul_le_mul s4 s2) (by decide)
  have NL : ∀ p, (nbD stl p).length = stl.length := fun p => by simp [nbD]
  have RX : Hid (∀ i, RInv (nbD stl) (okI L W H) ((ax : Int), (ay : Int)) (rchS (nbD stl) (okI L W H) ((ax : Int), (ay : Int)) i) i → i < (rchS (nbD stl) (okI L W H) ((ax : Int), (ay : Int)) i).Q.length → RchR (nbD stl) (okI L W H) (W * H) stl.length ((ax : Int), (ay : Int)) i) := fun i h hi => rchR_of OB.out NL h hi
  have RL : Hid (∀ i, RInv (nbD stl) (okI L W H) ((ax : Int), (ay : Int)) (rchS (nbD stl) (okI L W H) ((ax : Int), (ay : Int)) i) i → (rchS (nbD stl) (okI L W H) ((ax : Int), (ay : Int)) i).Q.length ≤ W * H ∧ i ≤ (rchS (nbD stl) (okI L W H) ((ax : Int), (ay : Int)) i).Q.length) := fun i h => ⟨OB.out.len h, h.le⟩
  have RE : Hid (∀ i, RInv (nbD stl) (okI L W H) ((ax : Int), (ay : Int)) (rchS (nbD stl) (okI L W H) ((ax : Int), (ay : Int)) i) i → ¬ i < (rchS (nbD stl) (okI L W H) ((ax : Int), (ay : Int)) i).Q.length → (rchS (nbD stl) (okI L W H) ((ax : Int), (ay : Int)) i).f = rchF (nbD stl) (okI L W H) (W * H) ((ax : Int), (ay : Int))) := fun i h hi => (rchS_end OB.out h hi).1
  have BF0 : Hid (RInv (nbD stl) (okI L W H) ((ax : Int), (ay : Int)) (rchS (nbD stl) (okI L W H) ((ax : Int), (ay : Int)) 0) 0) := rchS_zero ha
  have S1 : Hid ((⟨([] : List (Int × Int)) ++ [((ax : Int), (ay : Int))], fun x => if x = ((ax : Int), (ay : Int)) then some 0 else (fun _ => none : Int × Int → Option Nat) x⟩ : BS (Int × Int)) = rchS (nbD stl) (okI L W H) ((ax : Int), (ay : Int)) 0) := rfl
  have GX := Lib.hid (fun V (hb : Below w.heap.size w V) => And.intro ((hb.cell (p := ⟨g0, 0, none⟩) hg0).trans k0) ((hb.cell (p := ⟨g0, 1, none⟩) hg0).trans k1))
  have HA := Lib.hid ha
  have STH := Lib.hid ST
  -- the list of all pixels, white
  have hmk : ∀ V : World, (Instr.makeSlice 83 (.int .i64 ((W * H : Nat) : Int)) (.int .i64 ((W * H : Nat) : Int))).run Try.prog V = .ok (.slice (some ⟨V.heap.size, 0, none⟩) (W * H) (W * H)) (V.alloc (.cells (boolC (bTo (rO W fun _ => none) (W * H))) 4)) := by
    intro V
    obtain ⟨i0, hi0, hz0, hz1, hz2⟩ := info_parts boolInfo
    have h := run_make (P := Try.prog) V 83 4 i0 _ Try.underlying83 hi0 hz0 .i64 .i64 ((W * H : Nat) : Int) ((W * H : Nat) : Int) (by omega) (Int.le_refl _) (by rw [hz2]; omega) (by omega)
    rw [h, hz1, Int.toNat_natCast]
    show Result.ok _ (V.alloc (.cells (madeCells #[.bool false] (W * H * 1)) _)) = _
    rw [Nat.mul_one, boolC_made]
    have : List.replicate (W * H) false = bTo (rO W fun _ => none) (W * H) := by
      apply List.ext_getElem
      · simp [bTo]
      · intro i h1 h2; simp [bTo, rO]
    rw [this]
  have mw : (W : Int) * (H : Int) = ((W * H : Nat) : Int) := by simp
  have mw1 : IntKind.i64.wrap ((W : Int) * (H : Int)) = ((W * H : Nat) : Int) := by rw [mw]; exact IntWalk.i64_in _ (by omega)
  have mw2 : wrap64 ((W : Int) * (H : Int)) = ((W * H : Nat) : Int) := by rw [mw]; exact IntWalk.wrap64_in _ ⟨by omega, by omega⟩
  have T0 := Blk.made w 28 #[.slice none 0 0]
  have B0 : Below w.heap.size w (w.alloc (.cells #[.slice none 0 0] 28)) := Ext.more (Ext.refl _) _
  have P0 := Lib.hid (PX.out _ B0)
  have I0 : RsI w W (W * H) ⟨[], fun _ => none⟩ (w.heap.size + 2) 0 (((w.alloc (.cells #[.slice none 0 0] 28)).alloc (.cells (boolC (bTo (rO W fun _ => none) (W * H))) 4)).alloc (.cells #[] 50)) := by
    refine ⟨((Blk.made _ _ _).more _).more _, ?_, ?_, Ext.more (Ext.more (Ext.more (Ext.refl _) _) _) _⟩
    · have := (Blk.made (w.alloc (.cells #[.slice none 0 0] 28)) 4 (boolC (bTo (rO W fun _ => none) (W * H)))).more (.cells #[] 50)
      simpa using this
    · have := World.ownsRow_lit (e := 50) (size := 2) ((w.alloc (.cells #[.slice none 0 0] 28)).alloc (.cells (boolC (bTo (rO W fun _ => none) (W * H))) 4)) #[] 0 (Nat.le_refl _) (by decide) rfl
      simpa [spL] using this
  clear h hok ha ST k0 k1 NL mw BK hL hWr hHr e1' e2'
  obtain ⟨n, hn⟩ : ∃ n, W * H = n := ⟨_, rfl⟩
  have HNN := Lib.hid hn
  rw [hn] at nb256 hpl
  simp only [hn] at hmk RX RL RE MK mw1 mw2 OB I0 ⊢
  clear hn
  go_enter Try.func95, Try.ntmps95
  go_wp2_with fail
  refine (WD.out _ P0.out).mono ?_
  rintro e w' ⟨rfl, rfl⟩
  go_wp2_with fail
  refine (HD.out _ P0.out).mono ?_
  rintro e w' ⟨rfl, rfl⟩
  go_wp2_with fail
  generalize ((w.alloc (.cells #[.slice none 0 0] 28)).alloc (.cells (boolC (bTo (rO W fun _ => none) n)) 4)).alloc (.cells #[] 50) = wa at *
  clear hmk mw1 mw2 T0 B0 P0
  go_loopw [9, 10] (fun v k wr => (k = .int .i64 0 ∧ v = .slice (some ⟨w.heap.size + 2, 0, none⟩) 0 0 ∧ RsI w W n ⟨[], fun _ => none⟩ (w.heap.size + 2) 0 wr) ∨ ∃ gq cq : Nat, k = .int .i64 1 ∧ v = .slice (some ⟨gq, 0, none⟩) 1 cq ∧ RsI w W n (rchS (nbD stl) (okI L W H) ((ax : Int), (ay : Int)) 0) gq cq wr) (fun _ k _ => (1 - intOf k).toNat)
  case atStart => exact .inl ⟨rfl, rfl, I0⟩
  case round =>
    clear I0
    rcases hrel with ⟨rfl, rfl, I⟩ | ⟨gq, cq, rfl, rfl, I⟩
    · obtain ⟨x0, x1⟩ := GX.out _ I.ext
      have c0 := I.cell hax hpl
      have f0 := I.bits.free (ay * W + ax)
      have lb := I.bits.lt
      have HI := Lib.hid I
      have BQ := Lib.hid (fun V (hV : ∃ k, V = wr.drewN k) => (show Calls Try.prog 78 #[.pointer (some ⟨mp, 0, none⟩), .int .i64 ax, .int .i64 ay] V _ from BK2.out ax ay V (PX.out _ (by obtain ⟨k, rfl⟩ := hV; exact Ext.drawN I.ext k))))
      rw [HA.out] at BQ
      have u1 : IntKind.i64.wrap ((ay : Int) * W) = (ay : Int) * W := IntWalk.i64_in _ (by rw [← Int.natCast_mul]; omega)
      have u2 : IntKind.i64.wrap ((ay : Int) * W + ax) = ((ay * W + ax : Nat) : Int) := by rw [← Int.natCast_mul, ← Int.natCast_add]; exact IntWalk.i64_in _ (by omega)
      have PL := Lib.hid (show ∃ pl, ay * W + ax = pl from ⟨_, rfl⟩)
      simp only [Option.isSome_none] at c0
      obtain ⟨pl, hpe⟩ := PL.out
      rw [hpe] at c0 f0 u2 hpl
      have u3 : (0 : Int) ≤ (pl : Int) := by omega
      have u4 : (pl : Int) < (n : Int) := by omega
      have HPE := Lib.hid hpe
      clear I hpe PL
      go_wp2_with fail
      go_quiet ((go_at_call 78; exact Calls.quiet_of_same ((BQ.out _ ⟨_, rfl⟩).mono fun _ _ ⟨h, k⟩ => ⟨h, k.symm⟩)))
      have I2 := HI.out.step (Ext.drawN (Ext.refl _) nq)
      clear c0 f0 x0 x1 HI BQ
      generalize wr.drewN nq = w2 at *
      obtain ⟨x0, x1⟩ := GX.out _ I2.ext
      have lb := I2.bits.lt
      have f0 := I2.bits.free pl
      obtain ⟨ov, c0⟩ : ∃ ov, w2.cell? ⟨w.heap.size + 1, pl, none⟩ = some ov := by
        have := I2.cell hax (show ay * W + ax < n by rw [HPE.out]; exact hpl)
        rw [HPE.out] at this
        exact ⟨_, this⟩
      have y0 : ∀ k, ((w2.drewN k).setCell ⟨w.heap.size + 1, pl, none⟩ (.bool true)).cell? ⟨g0, 0, none⟩ = some (.int .i64 ax) := fun k => cell_other (by omega) x0
      have y1 : ∀ k, ((w2.drewN k).setCell ⟨w.heap.size + 1, pl, none⟩ (.bool true)).cell? ⟨g0, 1, none⟩ = some (.int .i64 ay) := fun k => cell_other (by omega) x1
      go_wp2_with fail
      refine wp_region_quiet_tail 15 (by kernel_rfl) (by kernel_rfl) ?_
      simp only [List.take_succ_cons, List.take_zero, List.drop_succ_cons, List.drop_zero]
      repeat (go_big_quiet_step (fail))
      refine wpQuiet_nil ?_
      intro _ hw'
      obtain ⟨nq2, hw''⟩ := hw'
      subst hw''
      have I3 := Lib.hid (I2.step (Ext.drawN (Ext.refl _) nq2))
      have y2 := y0 nq2
      have y3 := y1 nq2
      have f3 : (w2.drewN nq2).frozen? ⟨w.heap.size + 1, pl, none⟩ = false := f0
      have c3 : (w2.drewN nq2).cell? ⟨w.heap.size + 1, pl, none⟩ = some ov := c0
      have hq : Hid (((w2.drewN nq2).setCell ⟨w.heap.size + 1, pl, none⟩ (.bool true)).ownsRow (w.heap.size + 2) 50 2 (.slice (some ⟨w.heap.size + 2, 0, none⟩) 0 0) 0 []) := ownsRow_setCell_below (a := ⟨w.heap.size + 1, pl, none⟩) I3.out.que (by show w.heap.size + 1 < w.heap.size + 2; omega) _
      have hzz : w.heap.size + 2 ≤ ((w2.drewN nq2).setCell ⟨w.heap.size + 1, pl, none⟩ (.bool true)).heap.size := by have := (I3.out.que.lt _ rfl).2; simp [World.setCell] at this ⊢; omega
      clear y0 y1 c0 f0 x0 x1 I2
      generalize w2.drewN nq2 = w3 at *
      have hz3 : (w3.setCell ⟨w.heap.size + 1, pl, none⟩ (.bool true)).heap.size = w3.heap.size := by simp [World.setCell]
      have hnew : ((w3.setCell ⟨w.heap.size + 1, pl, none⟩ (.bool true)).alloc (.cells #[.int .i64 ax, .int .i64 ay] 50)).heap[w3.heap.size]? = some (.cells #[.int .i64 ax, .int .i64 ay] 50 (0, 0)) := by have := heap_alloc_new (w3.setCell ⟨w.heap.size + 1, pl, none⟩ (.bool true)) (.cells #[.int .i64 ax, .int .i64 ay] 50); rwa [hz3] at this
      have HNW := Lib.hid hnew
      rw [hz3] at hzz
      have HZZ : Hid (w.heap.size + 2 ≤ ((w3.setCell ⟨w.heap.size + 1, pl, none⟩ (.bool true)).alloc (.cells #[.int .i64 ax, .int .i64 ay] 50)).heap.size) := by rw [Hid, World.size_alloc, hz3]; omega
      clear hnew hz3
      go_wp2_with (at_builtin; refine wpList_app spotT (by rfl) _ _ (by rfl) (w.heap.size + 2) (.slice (some ⟨w.heap.size + 2, 0, none⟩) 0 0) 0 [] (by rfl) (hq.out.alloc _) w3.heap.size #[.int .i64 ax, .int .i64 ay] (by rfl) HNW.out rfl (by simp [Value.oneCell']) (by omega) HZZ.out ?_; intro g3 cap3 w4 hown4 hgrow4 hat4 hlt4)
      have PU := Lib.hid (I3.out.push (d := 0) hax (by rw [HPE.out]) hown4 hgrow4)
      rw [S1.out] at PU
      clear hown4 hgrow4 hat4 y2 y3 f3 c3
      go_wp2_with fail
      go_roundw
      case rel => exact .inr ⟨g3, cap3, rfl, rfl, PU.out⟩
      case measure => simp [intOf]
    · have BQ := RL.out 0 BF0.out
      obtain ⟨bq, _⟩ := BQ
      have q1 : Hid ((rchS (nbD stl) (okI L W H) ((ax : Int), (ay : Int)) 0).Q.length = 1) := rfl
      have STC := Lib.hid (STH.out.call wr)
      have LN := STH.out.len
      have HI := Lib.hid I
      clear S1 GX I
      go_wp2_with fail
      refine STC.out.mono ?_
      rintro e w5 ⟨gs, cs, rfl, hgs, S5, hb5⟩
      have I5 := HI.out.step hb5
      have NE5 : Hid (gq ≠ gs) := by have := (HI.out.que.lt gq rfl).2; intro e; omega
      have hgs2 : w.heap.size + 2 ≤ gs := by have := (HI.out.que.lt gq rfl).1; have := (HI.out.que.lt gq rfl).2; omega
      clear STC HI hb5 hgs
      go_wp2_with fail
      go_loopg [9, 12, 13, 14, 15] n (fun gn s9 s12 _ _ _ wr => ∃ i gq cq : Nat, Hid (gn + i = n) ∧ Hid (RInv (nbD stl) (okI L W H) ((ax : Int), (ay : Int)) (rchS (nbD stl) (okI L W H) ((ax : Int), (ay : Int)) i) i) ∧ s12 = .int .i64 i ∧ s9 = .slice (some ⟨gq, 0, none⟩) (rchS (nbD stl) (okI L W H) ((ax : Int), (ay : Int)) i).Q.length cq ∧ RsI w W n (rchS (nbD stl) (okI L W H) ((ax : Int), (ay : Int)) i) gq cq wr ∧ SpAt wr gs stl ∧ Hid (gq ≠ gs))
      case atStart => exact ⟨0, gq, cq, Nat.add_zero _, BF0, rfl, by rw [q1.out], I5, S5, NE5⟩
      case round =>
        obtain ⟨i, gq, cq, hni, hF, rfl, rfl, I, S, NE⟩ := hrel
        obtain ⟨gn, hgn⟩ : ∃ gn, gn = gk := ⟨_, rfl⟩
        rw [← hgn] at hni
        clear BF0 I5 S5 NE5 q1 bq
        obtain ⟨fl1, fl2⟩ := RL.out i hF.out
        by_cases hlt : i < (rchS (nbD stl) (okI L W H) ((ax : Int), (ay : Int)) i).Q.length
        · obtain ⟨⟨px, py⟩, d, T, hpo, hp3, hT0, hTj, hTI, hT4, hN⟩ := RX.out i hF.out hlt
          have PB := OB.out.bd _ hpo
          simp only at PB
          obtain ⟨⟨pb1, pb2⟩, pb3, pb4⟩ := PB
          rw [← hT0] at I hlt
          rw [← hT0]
          obtain ⟨m, hm⟩ : ∃ m, (T 0).Q.length = m := ⟨_, rfl⟩
          have HM := Lib.hid hm
          rw [hm] at hlt
          rw [hm]
          have i4 : (0 : Int) ≤ (i : Int) := by omega
          have i5 : (i : Int) < (m : Int) := by omega
          have HT4 := Lib.hid hT4
          have HN := Lib.hid hN
          clear hm hT0 hT4 hN hpo fl1 fl2 hp3
          go_wp2_with fail
          go_loopg [9, 13, 14, 15] stl.length (fun gm s9 s13 _ _ wr => ∃ j gq cq : Nat, Hid (gm + j = stl.length) ∧ s13 = .int .i64 j ∧ s9 = .slice (some ⟨gq, 0, none⟩) (T j).Q.length cq ∧ RsI w W n (T j) gq cq wr ∧ SpAt wr gs stl ∧ Hid (gq ≠ gs))
          case atStart => exact ⟨0, gq, cq, rfl, rfl, by rw [HM.out], I, S, NE⟩
          case round =>
            obtain ⟨j, gq, cq, hnj, rfl, rfl, I, S, NE⟩ := hrel
            by_cases hjl : j < stl.length
            · have TS := Lib.hid (hTj j hjl)
              obtain ⟨t1, t2, t3⟩ := hTI j (by omega)
              have hgi : (T j).Q[i]? = some (px, py) := by
                have := congrArg (fun l : List (Int × Int) => l[0]?) t3
                simpa [List.getElem?_drop] using this
              obtain ⟨h0, h1⟩ := I.head hgi
              obtain ⟨c1, c2⟩ := S.2 j hjl
              have nr := STH.out.near _ (List.getElem_mem hjl)
              have qe : (nbD stl (px, py)).getD j (0, 0) = (px + (stl[j]'hjl).1, py + (stl[j]'hjl).2) := by
                rw [List.getD_eq_getElem?_getD, List.getElem?_eq_getElem (by simpa [nbD] using hjl)]; simp [nbD]
              rw [qe] at TS
              generalize (stl[j]'hjl) = st at *
              obtain ⟨sx, sy⟩ := st
              simp only at c1 c2 nr TS
              obtain ⟨⟨n1, n2⟩, n3, n4⟩ := nr
              obtain ⟨qx, hqx⟩ : ∃ qx, px + sx = qx := ⟨_, rfl⟩
              obtain ⟨qy, hqy⟩ : ∃ qy, py + sy = qy := ⟨_, rfl⟩
              rw [hqx, hqy] at TS
              have w1' : IntKind.i64.wrap (px + sx) = qx := by rw [hqx]; exact IntWalk.i64_in _ (by omega)
              have w2' : IntKind.i64.wrap (py + sy) = qy := by rw [hqy]; exact IntWalk.i64_in _ (by omega)
              have j0 : (0 : Int) ≤ (j : Int) := by omega
              have j1 : (j : Int) < (stl.length : Int) := by omega
              have j4 : (i : Int) < ((T j).Q.length : Int) := by omega
              have HI := Lib.hid I
              have HS := Lib.hid S
              have HT3 := Lib.hid (And.intro t1 t2)
              clear I S qe hqx hqy t3 hgi
              go_wp2_with fail
              go_quiet (fail)
              have I5 := HI.out.step (Ext.drawN (Ext.refl _) nq)
              have S5 := HS.out.ext (Ext.drawN (Ext.refl _) nq)
              have g1 : (wr.drewN nq).cell? ⟨gq, i * 2 + 1, none⟩ = some (.int .i64 py) := h1
              have g2 : (wr.drewN nq).cell? ⟨gs, j * 2 + 1, none⟩ = some (.int .i64 sy) := c2
              clear HI HS h0 h1 c1 c2 w1'
              generalize wr.drewN nq = w5 at *
              go_wp2_with fail
              go_quiet (fail)
              have I6 := I5.step (Ext.drawN (Ext.refl _) nq)
              have S6 := S5.ext (Ext.drawN (Ext.refl _) nq)
              clear I5 S5 g1 g2 w2'
              generalize w5.drewN nq = w6 at *
              have B6 := Lib.hid (BK2.out qx qy w6 (PX.out _ I6.ext))
              obtain ⟨t1, t2⟩ := HT3.out
              cases hok : okI L W H (qx, qy)
              · rw [hok] at B6
                have FS : Hid (T (j + 1) = T j) := by rw [Hid, TS.out, BS.see, if_neg]; simp [hok]
                have HI6 := Lib.hid (And.intro I6 S6)
                clear hok I6 S6 TS
                go_wp2_with fail
                refine B6.out.mono ?_
                rintro e w' ⟨rfl, rfl⟩
                go_wp2_with fail
                go_roundg (gk - 1)
                case measure => have := hnj.out; omega
                case rel => exact ⟨j + 1, gq, cq, by have := hnj.out; show gk - 1 + (j + 1) = stl.length; omega, by go_num, by rw [FS.out], by rw [FS.out]; exact HI6.out.1, HI6.out.2, NE⟩
              rw [hok] at B6
              obtain ⟨u, v, e, hu, hv, _⟩ := okI_iff.1 hok
              rw [Prod.mk.injEq] at e
              obtain ⟨rfl, rfl⟩ := e
              have hpl2 : v * W + u < n := by rw [← HNN.out]; exact pl_lt hu hv
              have fc := I6.cell hu hpl2
              have ff := I6.bits.free (v * W + u)
              have lb := I6.bits.lt
              obtain ⟨pl2, hpe⟩ : ∃ pl2, v * W + u = pl2 := ⟨_, rfl⟩
              have HPE := Lib.hid hpe
              have m0 : v * W ≤ 324 := by omega
              have m1 : IntKind.i64.wrap ((v : Int) * W) = (v : Int) * W := IntWalk.i64_in _ (by rw [← Int.natCast_mul]; omega)
              have m2 : IntKind.i64.wrap ((v : Int) * W + u) = (pl2 : Int) := by rw [← hpe, Int.natCast_add, Int.natCast_mul]; exact IntWalk.i64_in _ (by rw [← Int.natCast_mul]; omega)
              have m3 : wrap64 ((v : Int) * W) = (v : Int) * W := IntWalk.wrap64_in _ ⟨by rw [← Int.natCast_mul]; omega, by rw [← Int.natCast_mul]; omega⟩
              rw [hpe] at fc ff hpl2
              have i2' : (0 : Int) ≤ (pl2 : Int) := by omega
              have i3' : (pl2 : Int) < (n : Int) := by omega
              clear hpe m0
              cases hf : (T j).f ((u : Int), (v : Int))
              case some e0 =>
                have FS : Hid (T (j + 1) = T j) := by rw [Hid, TS.out, BS.see, if_neg]; simp [hf]
                rw [hf] at fc
                simp only [Option.isSome_some] at fc
                have HI6 := Lib.hid (And.intro I6 S6)
                clear hok I6 S6 TS hf
                go_wp2_with fail
                refine B6.out.mono ?_
                rintro e w' ⟨rfl, rfl⟩
                go_wp2_with fail
                go_roundg (gk - 1)
                case measure => have := hnj.out; omega
                case rel => exact ⟨j + 1, gq, cq, by have := hnj.out; show gk - 1 + (j + 1) = stl.length; omega, by go_num, by rw [FS.out], by rw [FS.out]; exact HI6.out.1, HI6.out.2, NE⟩
              have FS : Hid (T (j + 1) = ⟨(T j).Q ++ [((u : Int), (v : Int))], fun x => if x = ((u : Int), (v : Int)) then some (d + 1) else (T j).f x⟩) := by
                rw [Hid, TS.out, BS.see, if_pos]; simp [hok, hf]
              rw [hf] at fc
              simp only [Option.isSome_none] at fc
              have hgq := I6.que.lt gq rfl
              have hz7 : (w6.setCell ⟨w.heap.size + 1, pl2, none⟩ (.bool true)).heap.size = w6.heap.size := by simp [World.setCell]
              have HNW : Hid (((w6.setCell ⟨w.heap.size + 1, pl2, none⟩ (.bool true)).alloc (.cells #[.int .i64 u, .int .i64 v] 50)).heap[w6.heap.size]? = some (.cells #[.int .i64 u, .int .i64 v] 50 (0, 0))) := by have := heap_alloc_new (w6.setCell ⟨w.heap.size + 1, pl2, none⟩ (.bool true)) (.cells #[.int .i64 u, .int .i64 v] 50); rwa [hz7] at this
              have HZZ : Hid (w.heap.size + 2 ≤ ((w6.setCell ⟨w.heap.size + 1, pl2, none⟩ (.bool true)).alloc (.cells #[.int .i64 u, .int .i64 v] 50)).heap.size) := by rw [Hid, World.size_alloc, hz7]; omega
              have HZ7 := Lib.hid hz7
              obtain ⟨qn, hqn⟩ : ∃ qn, (T j).Q.length = qn := ⟨_, rfl⟩
              have hq : Hid ((w6.setCell ⟨w.heap.size + 1, pl2, none⟩ (.bool true)).ownsRow (w.heap.size + 2) 50 2 (.slice (some ⟨gq, 0, none⟩) qn cq) qn (spL (T j).Q)) := by rw [← hqn]; exact ownsRow_setCell_below (a := ⟨w.heap.size + 1, pl2, none⟩) I6.que (by show w.heap.size + 1 < w.heap.size + 2; omega) _
              have HQN := Lib.hid hqn
              have S7 := Lib.hid ((S6.apart (p := ⟨w.heap.size + 1, pl2, none⟩) (by show w.heap.size + 1 ≠ gs; omega) (.bool true)).ext (Ext.more (Ext.refl _) (.cells #[.int .i64 u, .int .i64 v] 50)))
              have lgs := S6.1
              have HI6 := Lib.hid I6
              have qb : qn ≤ 324 := by omega
              rw [hqn]
              clear hok I6 S6 TS hf hz7 hqn t1 t2
              go_wp2_with fail
              refine B6.out.mono ?_
              rintro e w' ⟨rfl, rfl⟩
              go_wp2_with (at_builtin; refine wpList_app spotT (by rfl) _ _ (by rfl) (w.heap.size + 2) (.slice (some ⟨gq, 0, none⟩) qn cq) qn (spL (T j).Q) (by rfl) (hq.out.alloc _) w6.heap.size #[.int .i64 u, .int .i64 v] (by rfl) HNW.out rfl (by simp [Value.oneCell']) (by omega) HZZ.out ?_; intro g3 cap3 w7 hown7 hgrow7 hat7 hlt7)
              have PU := Lib.hid (HI6.out.push (d := d + 1) hu (by rw [HPE.out]) (by rw [HQN.out]; exact hown7) hgrow7)
              have e7 : Hid ((T (j + 1)).Q.length = qn + 1) := by rw [Hid, FS.out]; simp [HQN.out]
              have S8 : Hid (SpAt w7 gs stl) := S7.out.grown2 hgrow7 (by simp [Value.ownBlock]; have := NE.out; omega)
              have NE7 : Hid (g3 ≠ gs) := by
                rcases hat7 with h | h
                · have h' : gq = g3 := by simpa [Value.ownBlock] using h
                  rw [← h']; exact NE.out
                · rw [World.size_alloc, HZ7.out] at h
                  intro e; omega
              clear hown7 hgrow7 hat7 ff fc
              go_wp2_with fail
              go_roundg (gk - 1)
              case measure => have := hnj.out; omega
              case rel => exact ⟨j + 1, g3, cap3, by have := hnj.out; show gk - 1 + (j + 1) = stl.length; omega, by go_num, by rw [e7.out], by rw [FS.out]; exact PU.out, S8.out, NE7⟩
            · obtain rfl : j = stl.length := by have := hnj.out; omega
              obtain ⟨t1, t2, t3⟩ := hTI stl.length (Nat.le_refl _)
              have II := Lib.hid I
              have SS := Lib.hid S
              rw [HT4.out] at II ⊢
              clear I S t3
              go_wp2_with fail
              go_roundg (gn - 1)
              case measure => have := hni.out; omega
              case rel => exact ⟨i + 1, gq, cq, by have := hni.out; show gn - 1 + (i + 1) = n; omega, HN.out, by go_num, rfl, II.out, SS.out, NE⟩
        · have fe := RE.out i hF.out hlt
          have hM := I.bits
          rw [fe] at hM
          have hl : (bTo (rO W (rchF (nbD stl) (okI L W H) n ((ax : Int), (ay : Int)))) n).length = n := bTo_length _ _
          have hR : Rd wr (some ⟨w.heap.size + 1, 0, none⟩) (bools (bTo (rO W (rchF (nbD stl) (okI L W H) n ((ax : Int), (ay : Int)))) n)) := by
            intro _
            refine ⟨w.heap.size + 1, rfl, hM.lt, fun k hk => ?_⟩
            have hk2 : k < (bTo (rO W (rchF (nbD stl) (okI L W H) n ((ax : Int), (ay : Int)))) n).length := by simpa [bools] using hk
            rw [hM.cell, boolC_get _ _ hk2]
            simp [bools]
          have M1 := Lib.hid (MK.out _ n _ wr hR hl)
          have HI := Lib.hid I
          have hres := I.res
          obtain ⟨LB, hLB⟩ : ∃ LB, bTo (rO W (rchF (nbD stl) (okI L W H) n ((ax : Int), (ay : Int)))) n = LB := ⟨_, rfl⟩
          have HLB := Lib.hid hLB
          rw [hLB] at M1
          clear hLB
          clear fe hM hR hl RE RX RL hF I S MK
          go_wp2_with fail
          refine M1.out.mono ?_
          rintro e w9 ⟨A9, c9, rfl, hown9, hb9⟩
          have hres9 := hres.under hb9 hres.lt
          have c0 := hres9.cell 0
          have f0 := hres9.free 0
          simp at c0
          have cs := (hres9.store 0 (.slice A9 H c9)).cell 0
          simp at cs
          have HO := Lib.hid hown9
          have E9 := Lib.hid (Ext.then_ HI.out.ext hb9)
          have HZ9 := Lib.hid (And.intro HI.out.ext.size hres.lt)
          clear hown9 hb9 hres hres9 M1
          go_wp2_with fail
          refine bodyPost_ret (v := .agg #[.slice A9 H c9]) (by simp [results, Try.results95, go_sem, cs]) rfl ⟨A9, c9, rfl, ?_, ?_⟩
          · rw [HLB.out]; exact own_base (ownsRow_setCell_below HO.out (a := ⟨w.heap.size, 0, none⟩) HZ9.out.2 _) HZ9.out.1
          · exact E9.out.setCell (p := ⟨w.heap.size, 0, none⟩) (Nat.le_refl _) _

set_option maxRecDepth 100000 in
set_option maxHeartbeats 2000000 in
theorem spotsSW_any (mp : Nat) (A0 : Option Addr) (cc : Nat) (rows : List ByteArray) (L : List Bool) (W H : Nat) (w : World) (h : PicAt w mp A0 cc rows) (hok : picOw rows = true) (hL : picBits rows = L) (hWr : picW rows = W) (hHr : rows.length = H) :
    Calls Try.prog 81 #[.pointer (some ⟨mp, 0, none⟩)] w fun e w' => ∃ g c, e = .returned (.slice (some ⟨g, 0, none⟩) (spB L W (W * H)).length c) ∧
      w'.ownsRow w.heap.size 50 2 (.slice (some ⟨g, 0, none⟩) (spB L W (W * H)).length c) (spB L W (W * H)).length (spL (spB L W (W * H))) ∧ Below w.heap.size w w' := by
  obtain ⟨s1, s2, s3, s4⟩ := picOw_sizes hok
  rw [hWr] at s3 s4
  rw [hHr] at s1 s2
  have PX := Lib.hid (fun V (hb : Below w.heap.size w V) => h.ext hb)
  have WD := Lib.hid (fun V (hV : PicAt V mp A0 cc rows) => width_any mp A0 cc rows V hV (by omega))
  have HD := Lib.hid (fun V (hV : PicAt V mp A0 cc rows) => height_any mp A0 cc rows V hV)
  have BK := Lib.hid (fun x y V (hV : PicAt V mp A0 cc rows) => blackW_any mp A0 cc rows x y V hV hok)
  rw [hWr] at WD
  rw [hHr] at HD
  rw [hL, hWr, hHr] at BK
  have nb : W * H ≤ 324 := Nat.le_trans (Nat.mul_le_mul s4 s2) (by decide)
  have YB : Hid (∀ y, y < H → y * W + W ≤ W * H) := by
    intro y hy
    have := Nat.mul_le_mul_right W (show y + 1 ≤ H by omega)
    rw [Nat.succ_mul, Nat.mul_comm H W] at this
    exact this
  have hrow0 := World.ownsRow_lit (e := 50) (size := 2) w #[] 0 (Nat.le_refl _) (by decide) rfl
  have B0 : Below w.heap.size w (w.alloc (.cells #[] 50)) := Ext.more (Ext.refl _) _
  have SL := Lib.hid (fun k => spB_len L W k)
  have S0 : Hid (spB L W 0 = []) := rfl
  clear h hok hL hWr hHr
  go_enter Try.func81, Try.ntmps81
  go_wp2_with fail
  generalize w.alloc (.cells #[] 50) = w0 at *
  go_loopw [3, 4, 5] (fun v i _ wr => ∃ y g c : Nat, y ≤ H ∧ i = .int .i64 y ∧ v = .slice (some ⟨g, 0, none⟩) (spB L W (y * W)).length c ∧ wr.ownsRow w.heap.size 50 2 (.slice (some ⟨g, 0, none⟩) (spB L W (y * W)).length c) (spB L W (y * W)).length (spL (spB L W (y * W))) ∧ Below w.heap.size w wr) (fun _ i _ _ => H - (intOf i).toNat)
  case atStart => exact ⟨0, _, 0, Nat.zero_le _, rfl, by rw [Nat.zero_mul, S0.out]; rfl, by rw [Nat.zero_mul, S0.out]; simpa [spL] using hrow0, B0⟩
  case round =>
    obtain ⟨y, g, c, hy, rfl, rfl, hown, hb⟩ := hrel
    clear hrow0 B0
    have H1 := Lib.hid (HD.out wr (PX.out _ hb))
    have OW := Lib.hid hown
    clear hown
    by_cases hlt : y < H
    · have yb := YB.out y hlt
      have y0 : (y : Int) < (H : Int) := by omega
      generalize hsl : spB L W (y * W) = sl0 at *
      have HSL := Lib.hid hsl
      clear hsl
      go_wp2_with (go_at_call 49; refine H1.out.mono ?_; rintro e w' ⟨rfl, rfl⟩)
      go_loopw [3, 5] (fun v i wr => ∃ x g c : Nat, x ≤ W ∧ i = .int .i64 x ∧ v = .slice (some ⟨g, 0, none⟩) (spB L W (y * W + x)).length c ∧ wr.ownsRow w.heap.size 50 2 (.slice (some ⟨g, 0, none⟩) (spB L W (y * W + x)).length c) (spB L W (y * W + x)).length (spL (spB L W (y * W + x))) ∧ Below w.heap.size w wr) (fun _ i _ => W - (intOf i).toNat)
      case atStart => exact ⟨0, g, c, Nat.zero_le _, rfl, by rw [Nat.add_zero, HSL.out], by rw [Nat.add_zero, HSL.out]; exact OW.out, hb⟩
      case round =>
        obtain ⟨x, g, c, hx, rfl, rfl, hown, hb⟩ := hrel
        have W1 := Lib.hid (WD.out wr (PX.out _ hb))
        by_cases hxl : x < W
        · have x0 : (x : Int) < (W : Int) := by omega
          have P1 := Lib.hid (BK.out x y wr (PX.out _ hb))
          have SS := Lib.hid (spB_succ L W (y * W + x))
          rw [plM hxl, plD hxl] at SS
          rw [bit_in hxl hlt] at P1
          have sb := SL.out (y * W + x)
          have hsz := hb.size
          cases hbt : L.getD (y * W + x) false
          · rw [hbt] at P1 SS
            have E : Hid (spB L W (y * W + (x + 1)) = spB L W (y * W + x)) := by rw [Hid, ← Nat.add_assoc, SS.out]; simp
            have OW2 := Lib.hid hown
            clear hown hbt
            go_wp2_with (first
              | (go_at_call 48; refine W1.out.mono ?_; rintro e w' ⟨rfl, rfl⟩)
              | (go_at_call 78; refine P1.out.mono ?_; rintro e w' ⟨rfl, rfl⟩))
            go_roundw
            case rel => exact ⟨x + 1, g, c, by omega, by go_num, by rw [E.out], by rw [E.out]; exact OW2.out, hb⟩
            case measure => simp [intOf]; omega
          · rw [hbt] at P1 SS
            have E : Hid (spB L W (y * W + (x + 1)) = spB L W (y * W + x) ++ [((x : Int), (y : Int))]) := by rw [Hid, ← Nat.add_assoc, SS.out]; simp
            clear hbt
            generalize hsl2 : spB L W (y * W + x) = sl1 at *
            have hown' := Lib.hid hown
            obtain ⟨sn, hsn⟩ : ∃ sn, sl1.length = sn := ⟨_, rfl⟩
            have HSN := Lib.hid hsn
            rw [hsn] at hown hown' sb
            rw [hsn]
            clear hsl2 hsn SS
            go_wp2_with (first
              | (go_at_call 48; refine W1.out.mono ?_; rintro e w' ⟨rfl, rfl⟩)
              | (go_at_call 78; refine P1.out.mono ?_; rintro e w' ⟨rfl, rfl⟩)
              | (at_builtin; refine wpList_app spotT (by rfl) _ _ (by rfl) w.heap.size (.slice (some ⟨g, 0, none⟩) sn c) sn (spL sl1) (by rfl) (hown.alloc _) wr.heap.size #[.int .i64 x, .int .i64 y] (by rfl) (heap_alloc_new _ _) rfl (by simp [Value.oneCell']) (by omega) (by simp; omega) ?_; intro g3 cap3 w3 hown3 hgrow3 hat3 hlt3))
            have OW3 : Hid (w3.ownsRow w.heap.size 50 2 (.slice (some ⟨g3, 0, none⟩) (sn + 1) cap3) (sn + 1) (spL (sl1 ++ [((x : Int), (y : Int))]))) := by
              rw [Hid, spL_append]; exact hown3
            have B3 : Below w.heap.size w w3 := (hb.alloc hsz _).grown hgrow3 (by simp; omega) (fun z hz => (hown'.out.lt z hz).1)
            clear hown3 hgrow3 hat3
            go_roundw
            case rel => exact ⟨x + 1, g3, cap3, by omega, by go_num, by rw [E.out, List.length_append, HSN.out]; rfl, by rw [E.out, List.length_append, HSN.out]; exact OW3.out, B3⟩
            case measure => simp [intOf]; omega
        · obtain rfl : x = W := by omega
          have e : Hid ((y + 1) * x = y * x + x) := Nat.succ_mul _ _
          have OW2 := Lib.hid hown
          clear hown
          go_wp2_with (go_at_call 48; refine W1.out.mono ?_; rintro e w' ⟨rfl, rfl⟩)
          go_roundw
          case rel => exact ⟨y + 1, g, c, by omega, by go_num, by rw [e.out], by rw [e.out]; exact OW2.out, hb⟩
          case measure => simp [intOf]; omega
    · obtain rfl : y = H := by omega
      have e : Hid (W * y = y * W) := Nat.mul_comm _ _
      go_wp2_with (go_at_call 49; refine H1.out.mono ?_; rintro e w' ⟨rfl, rfl⟩)
      go_ret
      exact ⟨g, c, by rw [e.out]; rfl, by rw [e.out]; exact OW.out, hb⟩

set_option maxRecDepth 100000 in
set_option maxHeartbeats 1000000 in
theorem partSW_any {eight : Bool} {stl : List (Int × Int)} (ST : StT eight stl) (mp : Nat) (A0 : Option Addr) (cc : Nat) (rows : List ByteArray) (L : List Bool) (W H : Nat) (w : World) (h : PicAt w mp A0 cc rows) (hok : picOw rows = true) (hL : picBits rows = L) (hWr : picW rows = W) (hHr : rows.length = H)
    (ax ay : Nat) (ha : okI L W H ((ax : Int), (ay : Int)) = true) :
    Calls Try.prog 80 #[.pointer (some ⟨mp, 0, none⟩), .agg #[.int .i64 ax, .int .i64 ay], .bool eight] w fun e w' => ∃ q A c, e = .returned (.pointer (some ⟨q, 0, none⟩)) ∧
      PicAt w' q A c (rowsTo (rchL stl L W H ((ax : Int), (ay : Int))) W H) ∧ Below w.heap.size w w' := by
  have B2 : Below w.heap.size w ((w.alloc (.cells #[.int .i64 ax, .int .i64 ay] 50)).alloc (.cells #[.int .i64 ax, .int .i64 ay] 50)) := Ext.more (Ext.more (Ext.refl _) _) _
  have T1 := Blk.made (w.alloc (.cells #[.int .i64 ax, .int .i64 ay] 50)) 50 #[.int .i64 ax, .int .i64 ay]
  rw [World.size_alloc] at T1
  have RS := Lib.hid (reachSW_any ST mp A0 cc rows L W H _ (h.ext B2) hok hL hWr hHr ax ay ha (w.heap.size + 1) 1 (by rw [T1.cell 0]; rfl) (by rw [T1.cell 1]; rfl) T1.lt)
  have HL := Lib.hid (rowsTo_length (rchL stl L W H ((ax : Int), (ay : Int))) W H)
  have E : Hid (rchL stl L W H ((ax : Int), (ay : Int)) = bTo (rO W (rchF (nbD stl) (okI L W H) (W * H) ((ax : Int), (ay : Int)))) (W * H)) := rfl
  rw [← E.out] at RS
  clear h hok hL hWr hHr ha E T1
  generalize rchL stl L W H ((ax : Int), (ay : Int)) = LB at *
  go_enter Try.func80, Try.ntmps80
  go_wp2_with fail
  refine RS.out.mono ?_
  rintro e w3 ⟨A, c, rfl, hown, hb⟩
  have hB := Ext.then_ B2 (Ext.more hb (.cells #[.slice A H c] 28))
  have P3 : Hid (PicAt (w3.alloc (.cells #[.slice A H c] 28)) w3.heap.size A c (rowsTo LB W H)) := by
    refine ⟨by simp, ?_, ?_⟩
    · rw [HL.out]; exact cell_new _ _ _ _
    · exact (Rd.of_own hown).ext (Ext.more (Ext.refl _) (.cells #[.slice A H c] 28))
  clear hown hb RS
  go_wp2_with fail
  go_ret
  exact ⟨w3.heap.size, A, c, rfl, P3.out, hB⟩

set_option maxRecDepth 100000 in
set_option maxHeartbeats 2000000 in
theorem invertSW_any (mp : Nat) (A0 : Option Addr) (cc : Nat) (rows : List ByteArray) (L : List Bool) (W H : Nat) (w : World) (h : PicAt w mp A0 cc rows) (hok : picOw rows = true) (hL : picBits rows = L) (hWr : picW rows = W) (hHr : rows.length = H) :
    Calls Try.prog 79 #[.pointer (some ⟨mp, 0, none⟩)] w fun e w' => ∃ A c, e = .returned (.agg #[.slice A H c]) ∧
      w'.ownsRow w.heap.size 9 1 (.slice A H c) H (strs (rowsTo (L.map fun b => !b) W H)) ∧ Below w.heap.size w w' := by
  obtain ⟨s1, s2, s3, s4⟩ := picOw_sizes hok
  have B1 : Below w.heap.size w (w.alloc (.cells #[.slice none 0 0] 28)) := Ext.more (Ext.refl _) _
  have T1 := Blk.made w 28 #[.slice none 0 0]
  have P1 := h.ext B1
  have LI := Lib.hid (listPW_any mp A0 cc rows _ P1 hok)
  have WD := Lib.hid (fun V (hb : Below (w.heap.size + 1) (w.alloc (.cells #[.slice none 0 0] 28)) V) => width_any mp A0 cc rows V (P1.ext (by rw [World.size_alloc]; exact hb)) (by omega))
  rw [hWr] at s3 s4
  rw [hHr] at s1 s2
  rw [hL, hWr, hHr] at LI
  rw [hWr] at WD
  have hLn : L.length = W * H := by rw [← hL, ← hWr, ← hHr]; simp [picBits]
  have MK := Lib.hid (fun (A : Option Addr) (c : Nat) LB V (hV : Rd V A (bools LB)) (hl : LB.length = W * H) => make_any A c W H LB V hV s3 (by omega) (by omega) hl)
  have nb256 : W * H ≤ 324 := Nat.le_trans (Nat.mul_le_mul s4 s2) (by decide)
  have IA := Lib.hid (fun k (hk : k < L.length) => invTo_at hk)
  have IS := Lib.hid (fun k (hk : k < L.length) => invTo_set hk)
  have IL := Lib.hid (invTo_len L)
  have IE := Lib.hid (invTo_all (L := L))
  have I0 : Hid (invTo L 0 = L) := by simp [Hid, invTo]
  clear h hok hL hWr hHr P1
  obtain ⟨n, hn⟩ : ∃ n, W * H = n := ⟨_, rfl⟩
  rw [hn] at nb256 hLn
  simp only [hn] at LI MK
  have HLN := Lib.hid hLn
  clear hn hLn
  go_enter Try.func79, Try.ntmps79
  go_wp2_with fail
  refine LI.out.mono ?_
  rintro e w2 ⟨A2, c2, rfl, own2, hb2⟩
  have T2 := T1.under hb2 T1.lt
  rw [World.size_alloc] at hb2 own2
  rw [← I0.out] at own2
  clear T1 LI
  go_wp2_with fail
  go_loopw [4, 9] (fun _ i wr => ∃ k : Nat, k ≤ n ∧ i = .int .i64 k ∧ wr.ownsRow (w.heap.size + 1) 4 1 (.slice A2 n c2) n (bools (invTo L k)) ∧ Blk wr w.heap.size 28 #[.slice none 0 0] ∧ Below (w.heap.size + 1) (w.alloc (.cells #[.slice none 0 0] 28)) wr) (fun _ i _ => n - (intOf i).toNat)
  case atStart => exact ⟨0, Nat.zero_le _, rfl, own2, T2, hb2⟩
  case round =>
    obtain ⟨k, hk, rfl, hown, T, hb⟩ := hrel
    clear own2 T2 hb2
    by_cases hlt : k < n
    · rcases hown.2 with ⟨_, h0⟩ | ⟨g, cap, cur, hv, _⟩
      · omega
      · simp only [Value.slice.injEq] at hv
        obtain ⟨rfl, _, rfl⟩ := hv
        have hkL : k < L.length := by rw [HLN.out]; exact hlt
        have hl : k < (bools (invTo L k)).length := by simp only [bools, List.length_map]; rw [IL.out k]; exact hkL
        have c1 := hown.cellAt k (by omega)
        rw [List.getElem?_eq_getElem hl] at c1
        have e1 : (bools (invTo L k))[k]'hl = .bool L[k] := by simp only [bools, List.getElem_map]; rw [IA.out k hkL]
        rw [e1] at c1
        have f1 := hown.frozenAt k
        have hst := hown.stored k (.bool (!L[k]))
        rw [bools_set, IS.out k hkL] at hst
        have hgg := (hown.lt g rfl).1
        have T3 := T.apart (p := ⟨g, k, none⟩) (by show w.heap.size ≠ g; omega) (.bool (!L[k]))
        have B3 := hb.setCell (p := ⟨g, k, none⟩) hgg (.bool (!L[k]))
        have HX := Lib.hid (And.intro hst.1 (And.intro T3 B3))
        have i0 : (0 : Int) ≤ (k : Int) := by omega
        have i1 : (k : Int) < (n : Int) := by omega
        clear hst T3 B3 hown T hb e1
        generalize L[k] = bk at *
        go_wp2_with fail
        go_roundw
        case rel => exact ⟨k + 1, by omega, by go_num, HX.out.1, HX.out.2.1, HX.out.2.2⟩
        case measure => simp [intOf]; omega
    · obtain rfl : k = n := by omega
      have e := IE.out
      rw [HLN.out] at e
      rw [e] at hown
      have M1 := Lib.hid (fun V hV => MK.out A2 c2 (L.map fun b => !b) V hV (by simp [HLN.out]))
      have W1 := Lib.hid (WD.out wr hb)
      have R1 := Lib.hid (Rd.of_own hown)
      clear hown e MK WD IA IS IL IE I0
      have HBW := Lib.hid hb
      have hbz := hb.size
      rw [World.size_alloc] at hbz
      clear hb
      go_wp2_with fail
      refine W1.out.mono ?_
      rintro e w' ⟨rfl, rfl⟩
      go_wp2_with fail
      refine (M1.out _ R1.out).mono ?_
      rintro e w9 ⟨A9, c9, rfl, hown9, hb9⟩
      have hres9 := T.under hb9 T.lt
      have c0 := hres9.cell 0
      have f0 := hres9.free 0
      simp at c0
      have cs := (hres9.store 0 (.slice A9 H c9)).cell 0
      simp at cs
      have HO := Lib.hid hown9
      have E9 : Hid (Below w.heap.size w w9) := by
        have h1 : Below w.heap.size w wr := B1.trans (HBW.out.mono (by omega))
        exact Ext.then_ h1 hb9
      have tl := T.lt
      clear hown9 hb9 hres9 T
      go_wp2_with fail
      refine bodyPost_ret (v := .agg #[.slice A9 H c9]) (by simp [results, Try.results79, go_sem, cs]) rfl ⟨A9, c9, rfl, ?_, ?_⟩
      · exact own_base (ownsRow_setCell_below HO.out (a := ⟨w.heap.size, 0, none⟩) tl _) (by omega)
      · exact E9.out.setCell (p := ⟨w.heap.size, 0, none⟩) (Nat.le_refl _) _

end Go.Proofs.Ytdhajndmebnknaa
