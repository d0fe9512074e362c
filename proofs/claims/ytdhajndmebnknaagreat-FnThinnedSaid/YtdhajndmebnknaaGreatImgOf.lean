/- Pictures read as images. -/
import Derived.Test.YtdhajndmebnknaaGreatPicL
namespace Go.Proofs.YtdhajndmebnknaaGreat
open Go.RowKit

def rowOk (W : Nat) (r : ByteArray) : Bool := decide (r.size = W) && r.data.toList.all fun b => b == 35 || b == 46
def picW (rows : List ByteArray) : Nat := (rows.headD ByteArray.empty).size
def sizesOk (rows : List ByteArray) : Bool := inB (picW rows) 1 16 && inB rows.length 1 16
def picOk (rows : List ByteArray) : Bool := sizesOk rows && rows.all (rowOk (picW rows))
/-- Whether pixel number i is black. -/
def pix (rows : List ByteArray) (W i : Nat) : Bool := ((rows.getD (i / W) ByteArray.empty).data.toList.getD (i % W) 0) == 35
def picBits (rows : List ByteArray) : List Bool := (List.range (picW rows * rows.length)).map (pix rows (picW rows))

set_option maxHeartbeats 400000 in
theorem sizeOk_any (a b : Int) (w : World) :
    Calls Tryz.prog 44 #[.int .i64 a, .int .i64 b] w fun e w' => e = .returned (.bool (inB a 1 16 && inB b 1 16)) ∧ w = w' := by
  cases h1 : inB a 1 16
  · go_enter Tryz.func44, Tryz.ntmps44
    go_wp2_with (go_at_call 58; refine (in_any _ _ _ _).mono ?_; rintro e w' ⟨rfl, rfl⟩)
    go_ret
    exact ⟨by simp, rfl⟩
  · go_enter Tryz.func44, Tryz.ntmps44
    go_wp2_with (go_at_call 58; refine (in_any _ _ _ _).mono ?_; rintro e w' ⟨rfl, rfl⟩)
    go_ret
    exact ⟨by simp, rfl⟩

/-- What imageOf leaves. -/
structure ImgEnd (w : World) (rows : List ByteArray) (e : Ending) (w' : World) : Prop where
  yes : picOk rows = true → ∃ p g, e = .returned (.tuple #[.pointer (some ⟨p, 0, none⟩), .bool true]) ∧ Img w' p g (picW rows) rows.length (picBits rows) ∧ w.heap.size ≤ p ∧ w.heap.size ≤ g
  no : picOk rows = false → e = .returned (.tuple #[.pointer none, .bool false])
  ext : Below w.heap.size w w'

theorem bytes_at (r : ByteArray) (x : Nat) (h : x < r.size) : r.data.toList.getD x 0 = r[x] := by
  have h' : x < r.data.toList.length := by simpa using h
  simp [List.getD_eq_getElem?_getD, List.getElem?_eq_getElem h']
  rfl
theorem pix_at {rows : List ByteArray} {W y x : Nat} (hy : y < rows.length) (hx : x < W) :
    pix rows W (y * W + x) = ((rows[y]).data.toList.getD x 0 == 35) := by
  have e1 : (y * W + x) / W = y := by
    rw [Nat.mul_comm, Nat.mul_add_div (by omega), Nat.div_eq_of_lt hx]; omega
  have e2 : (y * W + x) % W = x := by
    rw [Nat.mul_comm, Nat.mul_add_mod, Nat.mod_eq_of_lt hx]
  unfold pix
  rw [e1, e2]
  have e3 : rows.getD y ByteArray.empty = rows[y] := by simp [List.getD_eq_getElem?_getD, hy]
  rw [e3]
theorem row_no {W : Nat} {r : ByteArray} (h : r.size ≠ W) : rowOk W r = false := by simp [rowOk, h]
theorem row_no2 {W : Nat} {r : ByteArray} (x : Nat) (h : x < r.size) (h1 : r[x] ≠ 35) (h2 : r[x] ≠ 46) : rowOk W r = false := by
  simp only [rowOk, Bool.and_eq_false_iff]
  right
  apply Bool.eq_false_iff.2
  intro ha
  rw [List.all_eq_true] at ha
  have := ha r[x] (by
    rw [← bytes_at r x h]
    have h' : x < r.data.toList.length := by simpa using h
    simp [List.getD_eq_getElem?_getD, List.getElem?_eq_getElem h'])
  simp [h1, h2] at this
theorem row_yes {W : Nat} {r : ByteArray} (hs : r.size = W) (h : ∀ j (hj : j < r.size), r[j] = 35 ∨ r[j] = 46) : rowOk W r = true := by
  simp only [rowOk, hs, decide_true, Bool.true_and, List.all_eq_true]
  intro b hb
  obtain ⟨j, hj, rfl⟩ := List.mem_iff_getElem.1 hb
  have h1 : r.data[j] = 35 ∨ r.data[j] = 46 := h j (by simpa using hj)
  simpa using h1
theorem picOk_no {rows : List ByteArray} (y : Nat) (h : y < rows.length) (hr : rowOk (picW rows) rows[y] = false) : picOk rows = false := by
  simp only [picOk, Bool.and_eq_false_iff]
  right
  apply Bool.eq_false_iff.2
  intro ha
  rw [List.all_eq_true] at ha
  rw [ha _ (List.getElem_mem h)] at hr
  cases hr
theorem picOk_yes {rows : List ByteArray} (hs : sizesOk rows = true) (h : ∀ y (hy : y < rows.length), rowOk (picW rows) rows[y] = true) : picOk rows = true := by
  simp only [picOk, hs, Bool.true_and, List.all_eq_true]
  intro r hr
  obtain ⟨j, hj, rfl⟩ := List.mem_iff_getElem.1 hr
  exact h j hj
theorem blank_img' (w : World) (k W H : Nat) (o : Obj) : Img (((((w.alloc o).drewN k).alloc (.cells (boolC (List.replicate (W * H) false)) 4))).alloc (.cells #[.int .i64 W, .int .i64 H, .slice (some ⟨w.heap.size + 1, 0, none⟩) (W * H) (W * H)] 79)) (w.heap.size + 1 + 1) (w.heap.size + 1) W H (List.replicate (W * H) false) := by
  have h := blank_img ((w.alloc o).drewN k) W H
  simp only [World.heap_drewN, World.size_alloc] at h
  exact h

set_option maxRecDepth 100000 in
set_option maxHeartbeats 1000000 in
theorem imageOf_any (A : Option Addr) (c : Nat) (rows : List ByteArray) (w : World) (h : Rd w A (strs rows)) (hn : rows.length ≤ 1000000000) :
    Calls Tryz.prog 20 #[.agg #[.slice A rows.length c]] w (ImgEnd w rows) := by
  obtain ⟨n, hnL⟩ : ∃ n, rows.length = n := ⟨_, rfl⟩
  rw [hnL] at hn ⊢
  by_cases hn0 : n = 0
  · have F : Hid (picOk rows = false) := by simp [Hid, picOk, sizesOk, inB, hnL, hn0]
    have t0 : ((n : Int) == 0) = true := by simp [hn0]
    clear hn0 hnL h
    go_enter Tryz.func20, Tryz.ntmps20
    go_wp2_with fail
    go_quiet (fail)
    go_wp2_with fail
    go_ret2
    exact ⟨fun h => (by rw [F.out] at h; cases h), fun _ => rfl, Ext.drawN (Ext.more (Ext.refl _) _) _⟩
  · have hs : (strs rows).length = n := by simp [strs, hnL]
    obtain ⟨g, rfl, hg, hc⟩ := h (by omega)
    have c0 := hc 0 (by omega)
    have e0 : (strs rows)[0] = .string (rows[0]'(by omega)) := by simp [strs]
    have eW : (rows[0]'(by omega)).size = picW rows := by
      cases rows with
      | nil => simp at hnL; omega
      | cons r rs => rfl
    rw [e0] at c0
    clear e0
    generalize rows[0]'(by omega) = r0 at *
    have t0 : ((n : Int) == 0) = false := by simp [hn0]
    have SZ := Lib.hid (fun W => sizeOk_any r0.size n W)
    have esz : (inB (r0.size : Int) 1 16 && inB (n : Int) 1 16) = sizesOk rows := by simp [sizesOk, eW, hnL]
    rw [esz] at SZ
    clear esz
    have n0 : (0 : Int) < (n : Int) := by omega
    have n1 : 0 < n := by omega
    cases hsz : sizesOk rows
    · have F : Hid (picOk rows = false) := by simp [Hid, picOk, hsz]
      rw [hsz] at SZ
      clear hsz hc hnL hs eW h hn0
      go_enter Tryz.func20, Tryz.ntmps20
      go_wp2_with fail
      go_quiet ((go_at_call 44; exact Calls.quiet_of_same ((SZ.out _).mono fun _ _ ⟨h, k⟩ => ⟨h, k.symm⟩)))
      go_wp2_with fail
      go_ret2
      exact ⟨fun h => (by rw [F.out] at h; cases h), fun _ => rfl, Ext.drawN (Ext.more (Ext.refl _) _) _⟩
    · rw [hsz] at SZ
      have hb := hsz
      simp only [sizesOk, Bool.and_eq_true, inB_iff, hnL, ← eW] at hb
      obtain ⟨⟨w1, w2⟩, w3, w4⟩ := hb
      have BH := Lib.hid (fun V => blank_any r0.size n V (by omega) (by omega))
      have R := Lib.hid (And.intro hsz (And.intro hnL (And.intro eW hc)))
      clear hsz hc hnL hs eW h hn0
      go_enter Tryz.func20, Tryz.ntmps20
      go_wp2_with fail
      go_quiet ((go_at_call 44; exact Calls.quiet_of_same ((SZ.out _).mono fun _ _ ⟨h, k⟩ => ⟨h, k.symm⟩)))
      go_wp2_with fail
      go_region_held3 (fun w' => w'.cell? ⟨w.heap.size, 0, none⟩ = some (.slice (some ⟨g, 0, none⟩) n c) ∧ w'.cell? ⟨g, 0, none⟩ = some (.string r0))
        (first | ((go_split_ands; refine ⟨?_, ?_⟩ <;> (repeat (first | exact c0 | exact cell_new _ _ _ _ | with_reducible refine cell_drewN ?_ | with_reducible refine cell_drew ?_ | with_reducible refine cell_more (by first | omega | (simp; omega) | simp) ?_)); done)) | (simp [go_sem, World.cell?_alloc_past, hg, c0]))
        (first | (go_at_call 45; refine (BH.out _).mono ?_; rintro e w' ⟨rfl, rfl⟩))
      have I0 := blank_img' w (nq + 1) r0.size n (.cells #[.slice (some ⟨g, 0, none⟩) n c] 26)
      have I1 : Below w.heap.size w (((((w.alloc (.cells #[.slice (some ⟨g, 0, none⟩) n c] 26)).drewN (nq + 1)).alloc (.cells (boolC (List.replicate (r0.size * n) false)) 4))).alloc (.cells #[.int .i64 r0.size, .int .i64 n, .slice (some ⟨w.heap.size + 1, 0, none⟩) (r0.size * n) (r0.size * n)] 79)) :=
        Ext.more (Ext.more (Ext.drawN (Ext.more (Ext.refl _) _) _) _) _
      go_wp2_with fail
      go_loopw [36] (fun i wr => ∃ y : Nat, y ≤ n ∧ i = .int .i64 y ∧ Img wr (w.heap.size + 1 + 1) (w.heap.size + 1) r0.size n (bitsTo (pix rows r0.size) (y * r0.size) (r0.size * n)) ∧ (∀ j (hj : j < rows.length), j < y → rowOk r0.size rows[j] = true) ∧ Below w.heap.size w wr) (fun i _ => n - (intOf i).toNat)
      case atStart => exact ⟨0, Nat.zero_le _, rfl, by rw [Nat.zero_mul, bitsTo_zero]; exact I0, fun j _ h => absurd h (Nat.not_lt_zero _), I1⟩
      case round =>
        obtain ⟨y, hy, rfl, hm, hok, hb⟩ := hrel
        clear I0 I1
        have HOK := Lib.hid hok
        clear hok
        by_cases hlt : y < n
        · obtain ⟨hsz, hnL, eW, hc⟩ := R.out
          have hys : y < rows.length := by omega
          have cy := (hb.cell (p := ⟨g, y, none⟩) hg).trans (hc y (by simp [strs]; omega))
          have ey : (strs rows)[y]'(by simp [strs]; omega) = .string rows[y] := by simp [strs]
          rw [ey] at cy
          have NO := Lib.hid (picOk_no y hys)
          have PX := Lib.hid (fun x hx => pix_at (W := r0.size) (x := x) hys hx)
          have HY := Lib.hid (fun h : rowOk r0.size rows[y] = true => (show ∀ j (hj : j < rows.length), j < y + 1 → rowOk r0.size rows[j] = true from fun j hj h1 => by
            by_cases e : j = y
            · subst e; exact h
            · exact HOK.out j hj (by omega)))
          rw [← eW] at NO
          clear hsz hnL eW hc ey
          generalize rows[y] = r at *
          have cw := hm.hdr.cell 0
          simp at cw
          have i0 : (0 : Int) ≤ (y : Int) := by omega
          have i1 : (y : Int) < (n : Int) := by omega
          by_cases hrs : r.size = r0.size
          · have t1 : ((r.size : Int) != (r0.size : Int)) = false := by simp [hrs]
            have HRS := Lib.hid hrs
            clear hrs
            obtain ⟨wo, rfl⟩ : ∃ wo : World, wo = wr := ⟨_, rfl⟩
            go_wp2_with fail
            clear cy cw
            have hr16 : r.size ≤ 16 := by have := HRS.out; omega
            go_loopw [50] (fun i wr => ∃ x : Nat, x ≤ r.size ∧ i = .int .i64 x ∧ Img wr (w.heap.size + 1 + 1) (w.heap.size + 1) r0.size n (bitsTo (pix rows r0.size) (y * r0.size + x) (r0.size * n)) ∧ (∀ j (hj : j < r.size), j < x → r[j] = 35 ∨ r[j] = 46) ∧ Below w.heap.size w wr) (fun i _ => r.size - (intOf i).toNat)
            case atStart => exact ⟨0, Nat.zero_le _, rfl, hm, fun j _ h => absurd h (Nat.not_lt_zero _), hb⟩
            case round =>
              obtain ⟨x, hx, rfl, hm2, hok2, hb2⟩ := hrel
              have HO2 := Lib.hid hok2
              clear hok2
              by_cases hxl : x < r.size
              · have P := PX.out x (by have := HRS.out; omega)
                rw [bytes_at r x hxl] at P
                have NO2 := Lib.hid (fun h1 h2 => NO.out (row_no2 x hxl h1 h2))
                have HX := Lib.hid (fun h : r[x] = 35 ∨ r[x] = 46 => (show ∀ j (hj : j < r.size), j < x + 1 → r[j] = 35 ∨ r[j] = 46 from fun j hj h1 => by
                  by_cases e : j = x
                  · subst e; exact h
                  · exact HO2.out j hj (by omega)))
                have ST := Lib.hid (fun (V : World) (b : Bool) (h : Img V (w.heap.size + 1 + 1) (w.heap.size + 1) r0.size n (bitsTo (pix rows r0.size) (y * r0.size + x) (r0.size * n))) => set_any _ _ _ _ _ x y b V h (by omega) (by omega) (by have := HRS.out; omega) hlt)
                have i2 : (0 : Int) ≤ (x : Int) := by omega
                have i3 : (x : Int) < (r.size : Int) := by omega
                by_cases e35 : r[x] = 35
                · have q : ((r[x]'hxl).toNat : Int) = 35 := by rw [e35]; rfl
                  have HP : Hid (pix rows r0.size (y * r0.size + x) = true) := by rw [Hid, P, e35]; rfl
                  have HX' := Lib.hid (HX.out (by left; exact e35))
                  clear P NO2 HX
                  go_wp2_with fail
                  refine (ST.out _ _ hm2).mono ?_
                  rintro e w' ⟨rfl, rfl⟩
                  go_wp2_with fail
                  go_roundw
                  case rel =>
                    refine ⟨x + 1, by omega, by go_num, ?_, HX'.out, (hb2.setCell (p := ⟨w.heap.size + 1, _, none⟩) (by show w.heap.size ≤ w.heap.size + 1; omega) _).drew⟩
                    have := (hm2.put (y * r0.size + x) true).drewN 1
                    rw [← HP.out, bitsTo_succ, HP.out] at this
                    exact this
                  case measure => simp [intOf]; omega
                · by_cases e46 : r[x] = 46
                  · have q : ((r[x]'hxl).toNat : Int) = 46 := by rw [e46]; rfl
                    have HP : Hid (pix rows r0.size (y * r0.size + x) = false) := by rw [Hid, P, e46]; rfl
                    have HX' := Lib.hid (HX.out (by right; exact e46))
                    clear P NO2 HX
                    go_wp2_with fail
                    refine (ST.out _ _ hm2).mono ?_
                    rintro e w' ⟨rfl, rfl⟩
                    go_wp2_with fail
                    go_roundw
                    case rel =>
                      refine ⟨x + 1, by omega, by go_num, ?_, HX'.out, (hb2.setCell (p := ⟨w.heap.size + 1, _, none⟩) (by show w.heap.size ≤ w.heap.size + 1; omega) _).drew⟩
                      have := (hm2.put (y * r0.size + x) false).drewN 1
                      rw [← HP.out, bitsTo_succ, HP.out] at this
                      exact this
                    case measure => simp [intOf]; omega
                  · have F := Lib.hid (NO2.out e35 e46)
                    have q1 : (((r[x]'hxl).toNat : Int) != 35) = true := by
                      simp only [bne_iff_ne, ne_eq]; intro h; exact e35 (UInt8.toNat_inj.1 (show (r[x]'hxl).toNat = 35 by omega))
                    have q2 : (((r[x]'hxl).toNat : Int) != 46) = true := by
                      simp only [bne_iff_ne, ne_eq]; intro h; exact e46 (UInt8.toNat_inj.1 (show (r[x]'hxl).toNat = 46 by omega))
                    clear P NO2 HX e35 e46
                    go_wp2_with fail
                    go_ret2
                    exact ⟨fun h => (by rw [F.out] at h; cases h), fun _ => rfl, hb2⟩
              · obtain rfl : x = r.size := by omega
                have HY' := Lib.hid (HY.out (row_yes HRS.out (fun j hj => HO2.out j hj hj)))
                have e : y * r0.size + r.size = (y + 1) * r0.size := by rw [HRS.out, Nat.add_mul, Nat.one_mul]
                rw [e] at hm2
                clear e
                go_wp2_with fail
                go_roundw
                case rel => exact ⟨y + 1, by omega, by go_num, hm2, HY'.out, hb2⟩
                case measure => simp [intOf]; omega
          · have t1 : ((r.size : Int) != (r0.size : Int)) = true := by simp; omega
            have F := Lib.hid (NO.out (row_no hrs))
            clear hrs
            go_wp2_with fail
            go_ret2
            exact ⟨fun h => (by rw [F.out] at h; cases h), fun _ => rfl, hb⟩
        · obtain rfl : y = n := by omega
          obtain ⟨hsz, hnL, eW, hc⟩ := R.out
          have Y : Hid (picOk rows = true) := picOk_yes hsz (fun j hj => by rw [← eW]; exact HOK.out j hj (by omega))
          have E : Hid (Img wr (w.heap.size + 1 + 1) (w.heap.size + 1) (picW rows) rows.length (picBits rows)) := by
            rw [Nat.mul_comm y, bitsTo_all] at hm
            rw [picBits, ← eW, hnL]; exact hm
          clear hsz hnL eW hc
          go_wp2_with fail
          go_ret2
          exact ⟨fun _ => ⟨_, _, rfl, E.out, by omega, by omega⟩, fun h => (by rw [Y.out] at h; cases h), hb⟩
end Go.Proofs.YtdhajndmebnknaaGreat
