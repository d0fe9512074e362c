/- The least heights of ways to the edge: the program's. -/
import Derived.Test.YtajepoopicoodaaHeiW
import Derived.Laws.EntriesVeiled
namespace Go.Proofs.Ytajepoopicoodaa
open Go.RowKit

/-- Whether a place is at the edge. -/
def edgeB (W H i : Nat) : Bool := decide (i % W = 0) || decide (i / W = 0) || decide (i % W + 1 = W) || decide (i / W + 1 = H)
theorem edgeB_xy {W H x y : Nat} (hx : x < W) : edgeB W H (y * W + x) = (decide (x = 0) || decide (y = 0) || decide (x + 1 = W) || decide (y + 1 = H)) := by
  rw [edgeB, plD hx, plM hx]
theorem enters_spills1 : Enters 93 := enters_of Try.func93 (by kernel_rfl) (by kernel_rfl)
theorem enters_spills2 : Enters 94 := enters_of Try.func94 (by kernel_rfl) (by kernel_rfl)
set_option maxHeartbeats 1000000 in
theorem spills1_any (x y W H bw bh : Nat) (w : World) (hW : W ≤ 1000) (hH : H ≤ 1000) (hx : x < W) (hy : y < H) (h1 : w.cell? ⟨bw, 0, none⟩ = some (.int .i64 W)) (h2 : w.cell? ⟨bh, 0, none⟩ = some (.int .i64 H)) (l1 : bw < w.heap.size) (l2 : bh < w.heap.size) :
    Calls Try.prog 93 #[.agg #[.int .i64 x, .int .i64 y], .pointer (some ⟨bw, 0, none⟩), .pointer (some ⟨bh, 0, none⟩)] w fun e w' => e = .returned (.bool (edgeB W H (y * W + x))) ∧ Below w.heap.size w w' := by
  have B0 : Below w.heap.size w (w.alloc (.cells #[.int .i64 x, .int .i64 y] 28)) := Ext.more (Ext.refl _) _
  have E := Lib.hid (edgeB_xy (H := H) (y := y) hx)
  rw [E.out]
  clear E
  by_cases x0 : x = 0
  · subst x0
    go_enter Try.func93, Try.ntmps93
    go_wp2_with fail
    go_ret
    exact ⟨by simp, B0⟩
  · have t0 : ((x : Int) == 0) = false := by simp; omega
    by_cases y0 : y = 0
    · subst y0
      go_enter Try.func93, Try.ntmps93
      go_wp2_with fail
      go_ret
      exact ⟨by simp [x0], B0⟩
    · have t1 : ((y : Int) == 0) = false := by simp; omega
      by_cases x1 : x + 1 = W
      · have t2 : ((x : Int) == (W : Int) - 1) = true := by simp; omega
        go_enter Try.func93, Try.ntmps93
        go_wp2_with fail
        go_ret
        exact ⟨by simp [x1], B0⟩
      · have t2 : ((x : Int) == (W : Int) - 1) = false := by simp; omega
        by_cases y1 : y + 1 = H
        · have t3 : ((y : Int) == (H : Int) - 1) = true := by simp; omega
          go_enter Try.func93, Try.ntmps93
          go_wp2_with fail
          go_ret
          exact ⟨by simp [y1], B0⟩
        · have t3 : ((y : Int) == (H : Int) - 1) = false := by simp; omega
          go_enter Try.func93, Try.ntmps93
          go_wp2_with fail
          go_ret
          exact ⟨by simp [x0, y0, x1, y1], B0⟩
set_option maxHeartbeats 1000000 in
theorem spills2_any (p : Nat) (A0 : Option Addr) (c0 : Nat) (rows : List (List Int)) (x y W H bp bf bw bh : Nat) (w : World) (h : GreyAt w p A0 c0 rows) (hr : ∀ y (hy : y < rows.length), rows[y].length = W) (hH0 : rows.length = H) (hW : W ≤ 1000) (hH : H ≤ 1000) (hx : x < W) (hy : y < H)
    (T0 : Blk w bp 67 #[.pointer (some ⟨p, 0, none⟩)]) (T1 : Blk w bf 75 #[.func (.func 93) #[] #[.pointer (some ⟨bw, 0, none⟩), .pointer (some ⟨bh, 0, none⟩)]])
    (T2 : Blk w bw 2 #[.int .i64 W]) (T3 : Blk w bh 2 #[.int .i64 H]) :
    Calls Try.prog 94 #[.agg #[.int .i64 x, .int .i64 y], .pointer (some ⟨bf, 0, none⟩), .pointer (some ⟨bp, 0, none⟩)] w fun e w' => e = .returned (.int .i64 (if edgeB W H (y * W + x) then gF rows W (y * W + x) else 100)) ∧ Below w.heap.size w w' := by
  have B0 : Below w.heap.size w (w.alloc (.cells #[.int .i64 x, .int .i64 y] 28)) := Ext.more (Ext.refl _) _
  have TS := Blk.made w 28 #[.int .i64 x, .int .i64 y]
  have ES := enters_spills1
  unfold Enters at ES
  have SA := Lib.hid (fun V (hb : Below w.heap.size w V) => spills1_any x y W H bw bh V hW hH hx hy (by simpa using (T2.under hb T2.lt).cell 0) (by simpa using (T3.under hb T3.lt).cell 0) (T2.under hb T2.lt).lt (T3.under hb T3.lt).lt)
  have GA := Lib.hid (fun V (hb : Below w.heap.size w V) => g_at (h.ext hb) hr hx (show y < rows.length by omega))
  have a0 := (T0.under B0 T0.lt).cell 0
  have a1 := (T1.under B0 T1.lt).cell 0
  have P0 := Lib.hid (fun V (hb : Below w.heap.size w V) => (T0.under hb T0.lt).cell 0)
  simp at a0 a1
  clear h hr T0 T1 T2 T3
  cases he : edgeB W H (y * W + x)
  · rw [he] at SA
    rw [if_neg (by decide)]
    clear he
    go_enter Try.func94, Try.ntmps94
    go_wp2_with fail
    generalize w.alloc (.cells #[.int .i64 x, .int .i64 y] 28) = w1 at *
    refine (SA.out _ B0).mono ?_
    rintro e w2 ⟨rfl, hb⟩
    have B2 := Ext.then_ B0 hb
    have a2 := P0.out _ B2
    have a3 := (TS.under hb TS.lt).cell 0
    have a4 := (TS.under hb TS.lt).cell 1
    simp at a2 a3 a4
    clear a0 a1 hb TS
    go_wp2_with fail
    go_ret
    exact ⟨rfl, B2⟩
  · rw [he] at SA
    rw [if_pos rfl]
    clear he
    go_enter Try.func94, Try.ntmps94
    go_wp2_with fail
    generalize w.alloc (.cells #[.int .i64 x, .int .i64 y] 28) = w1 at *
    refine (SA.out _ B0).mono ?_
    rintro e w2 ⟨rfl, hb⟩
    have B2 := Ext.then_ B0 hb
    have a2 := P0.out _ B2
    have a3 := (TS.under hb TS.lt).cell 0
    have a4 := (TS.under hb TS.lt).cell 1
    simp at a2 a3 a4
    clear a0 a1 hb TS
    go_wp2_with fail
    refine (GA.out _ B2).mono ?_
    rintro e w3 ⟨rfl, hb3⟩
    go_wp2_with fail
    go_ret
    exact ⟨rfl, Ext.then_ B2 hb3⟩

set_option maxRecDepth 100000 in
set_option maxHeartbeats 8000000 in
theorem spills_any (p : Nat) (A0 : Option Addr) (c0 : Nat) (rows : List (List Int)) (W H : Nat) (w : World) (h : GreyAt w p A0 c0 rows) (hok : greyOk rows = true) (hW0 : tabW rows = W) (hH0 : rows.length = H) :
    Calls Try.prog 69 #[.pointer (some ⟨p, 0, none⟩)] w fun e w' => ∃ A c vs O, e = .returned (.agg #[.slice A H c]) ∧ MatAt w' w.heap.size w'.heap.size A c vs (gO O W H) ∧ Hid (IsPass W (W * H) (gF rows W) (fun i => edgeB W H i = true) O) ∧ Below w.heap.size w w' := by
  have B1 : Below w.heap.size w ((w.alloc (.cells #[.pointer (some ⟨p, 0, none⟩)] 67)).alloc (.cells #[.slice none 0 0] 31)) := Ext.more (Ext.more (Ext.refl _) _) _
  have T0' : Blk ((w.alloc (.cells #[.pointer (some ⟨p, 0, none⟩)] 67)).alloc (.cells #[.slice none 0 0] 31)) w.heap.size 67 #[.pointer (some ⟨p, 0, none⟩)] := (Blk.made _ _ _).more _
  have T4' : Blk ((w.alloc (.cells #[.pointer (some ⟨p, 0, none⟩)] 67)).alloc (.cells #[.slice none 0 0] 31)) (w.heap.size + 1) 31 #[.slice none 0 0] := by
    have := Blk.made (w.alloc (.cells #[.pointer (some ⟨p, 0, none⟩)] 67)) 31 #[.slice none 0 0]
    simpa using this
  have SZ := Lib.hid (sizes_any p A0 c0 rows _ (h.ext B1) (by have := tab_sizes hok; omega))
  rw [hW0, hH0] at SZ
  have hmf : ∀ (fn : Fn) (first cap : Array Value) (w : World), (Instr.makeFunc fn first cap).run Try.prog w = .ok (.func fn first cap) w := fun _ _ _ _ => rfl
  obtain ⟨n, hn⟩ : ∃ n, W * H = n := ⟨_, rfl⟩
  obtain ⟨G, hG⟩ : ∃ G, gF rows W = G := ⟨_, rfl⟩
  rw [hn, hG]
  have HNG := Lib.hid (And.intro hn hG)
  clear hn hG
  go_enter Try.func69, Try.ntmps69
  go_wp2_with fail
  generalize (w.alloc (.cells #[.pointer (some ⟨p, 0, none⟩)] 67)).alloc (.cells #[.slice none 0 0] 31) = w1 at *
  refine SZ.out.mono ?_
  rintro e w2' ⟨rfl, nd, rfl⟩
  have BA : Below w.heap.size w (w1.drewN nd) := Ext.drawN B1 nd
  have T0 : Blk (w1.drewN nd) w.heap.size 67 #[.pointer (some ⟨p, 0, none⟩)] := T0'
  have T4 : Blk (w1.drewN nd) (w.heap.size + 1) 31 #[.slice none 0 0] := T4'
  clear T0' T4' B1
  generalize w1.drewN nd = w2 at *
  have E1 : Blk ((w2.alloc (.cells #[.int .i64 0] 2)).alloc (.cells #[.int .i64 0] 2)) w2.heap.size 2 #[.int .i64 0] := (Blk.made w2 _ _).more _
  have E2 : Blk ((w2.alloc (.cells #[.int .i64 0] 2)).alloc (.cells #[.int .i64 0] 2)) (w2.heap.size + 1) 2 #[.int .i64 0] := by
    have := Blk.made (w2.alloc (.cells #[.int .i64 0] 2)) 2 #[.int .i64 0]
    simpa using this
  have f0 := E1.free 0
  have c0' := E1.cell 0
  have E3 := E2.apart (p := ⟨w2.heap.size, 0, none⟩) (by show w2.heap.size + 1 ≠ w2.heap.size; omega) (.int .i64 W)
  have f1 := E3.free 0
  have c1' := E3.cell 0
  simp at c1'
  have T5 : Blk (((w2.alloc (.cells #[.int .i64 W] 2)).alloc (.cells #[.int .i64 H] 2)).alloc (.cells #[.nilFunc] 75)) (w2.heap.size + 1 + 1) 75 #[.nilFunc] := by
    have := Blk.made ((w2.alloc (.cells #[.int .i64 W] 2)).alloc (.cells #[.int .i64 H] 2)) 75 #[.nilFunc]
    simpa using this
  have f2 := T5.free 0
  have c2 : (((w2.alloc (.cells #[.int .i64 W] 2)).alloc (.cells #[.int .i64 H] 2)).alloc (.cells #[.nilFunc] 75)).cell? ⟨w2.heap.size + 1 + 1, 0, none⟩ = some .nilFunc := T5.cell 0
  clear c0'
  have B3 : Below w.heap.size w (((w2.alloc (.cells #[.int .i64 W] 2)).alloc (.cells #[.int .i64 H] 2)).alloc (.cells #[.func (.func 93) #[] #[.pointer (some ⟨w2.heap.size, 0, none⟩), .pointer (some ⟨w2.heap.size + 1, 0, none⟩)]] 75)) := Ext.more (Ext.more (Ext.more BA _) _) _
  have T0w : Blk (((w2.alloc (.cells #[.int .i64 W] 2)).alloc (.cells #[.int .i64 H] 2)).alloc (.cells #[.func (.func 93) #[] #[.pointer (some ⟨w2.heap.size, 0, none⟩), .pointer (some ⟨w2.heap.size + 1, 0, none⟩)]] 75)) w.heap.size 67 #[.pointer (some ⟨p, 0, none⟩)] := ((T0.more _).more _).more _
  have T4w : Blk (((w2.alloc (.cells #[.int .i64 W] 2)).alloc (.cells #[.int .i64 H] 2)).alloc (.cells #[.func (.func 93) #[] #[.pointer (some ⟨w2.heap.size, 0, none⟩), .pointer (some ⟨w2.heap.size + 1, 0, none⟩)]] 75)) (w.heap.size + 1) 31 #[.slice none 0 0] := ((T4.more _).more _).more _
  have TW : Blk (((w2.alloc (.cells #[.int .i64 W] 2)).alloc (.cells #[.int .i64 H] 2)).alloc (.cells #[.func (.func 93) #[] #[.pointer (some ⟨w2.heap.size, 0, none⟩), .pointer (some ⟨w2.heap.size + 1, 0, none⟩)]] 75)) w2.heap.size 2 #[.int .i64 W] := ((Blk.made w2 _ _).more _).more _
  have TH : Blk (((w2.alloc (.cells #[.int .i64 W] 2)).alloc (.cells #[.int .i64 H] 2)).alloc (.cells #[.func (.func 93) #[] #[.pointer (some ⟨w2.heap.size, 0, none⟩), .pointer (some ⟨w2.heap.size + 1, 0, none⟩)]] 75)) (w2.heap.size + 1) 2 #[.int .i64 H] := by
    have := (Blk.made (w2.alloc (.cells #[.int .i64 W] 2)) 2 #[.int .i64 H]).more (.cells #[.func (.func 93) #[] #[.pointer (some ⟨w2.heap.size, 0, none⟩), .pointer (some ⟨w2.heap.size + 1, 0, none⟩)]] 75)
    simpa using this
  have TF : Blk (((w2.alloc (.cells #[.int .i64 W] 2)).alloc (.cells #[.int .i64 H] 2)).alloc (.cells #[.func (.func 93) #[] #[.pointer (some ⟨w2.heap.size, 0, none⟩), .pointer (some ⟨w2.heap.size + 1, 0, none⟩)]] 75)) (w2.heap.size + 1 + 1) 75 #[.func (.func 93) #[] #[.pointer (some ⟨w2.heap.size, 0, none⟩), .pointer (some ⟨w2.heap.size + 1, 0, none⟩)]] := by
    have := Blk.made ((w2.alloc (.cells #[.int .i64 W] 2)).alloc (.cells #[.int .i64 H] 2)) 75 #[.func (.func 93) #[] #[.pointer (some ⟨w2.heap.size, 0, none⟩), .pointer (some ⟨w2.heap.size + 1, 0, none⟩)]]
    simpa using this
  have kt0 := T0w.cell 0
  simp at kt0
  go_wp2_with fail
  obtain ⟨s1, s2, s3, s4⟩ := tab_sizes hok
  have GB : Hid (∀ i, i < W * H → 0 ≤ gF rows W i ∧ gF rows W i ≤ 99) := by rw [← hH0]; exact gF_bd hok hW0
  have hr := tab_row hok
  have GH := Lib.hid (fun V (hV : GreyAt V p A0 c0 rows) (x y : Int) => g_has hV hW0 hH0 (by omega) (by omega) (by omega) x y)
  have GA := Lib.hid (fun V (hV : GreyAt V p A0 c0 rows) (x y : Nat) (hx : x < W) (hy : y < H) => g_at hV (fun y hy => by rw [hr y hy, hW0]) hx (by omega) (y := y))
  have GS := Lib.hid (fun V (hV : GreyAt V p A0 c0 rows) => spots_any' p A0 c0 rows W V hV (by omega) (by omega) (fun y hy => by rw [hr y hy, hW0]))
  have HB := Lib.hid (fun V (hb : Below w.heap.size w V) => h.ext hb)
  generalize hb1 : w2.heap.size = b1 at *
  generalize ((w2.alloc (.cells #[.int .i64 W] 2)).alloc (.cells #[.int .i64 H] 2)).alloc (.cells #[.func (.func 93) #[] #[.pointer (some ⟨b1, 0, none⟩), .pointer (some ⟨b1 + 1, 0, none⟩)]] 75) = w3 at *
  have RM := Lib.hid (remade_any p A0 c0 rows 94 #[.pointer (some ⟨b1 + 1 + 1, 0, none⟩), .pointer (some ⟨w.heap.size, 0, none⟩)] (fun i => if edgeB W H i then gF rows W i else 100) W H w3 (h.ext B3) hW0 hH0 (by omega) (by omega) (by omega) enters_spills2
    (fun x y hx hy wr hb => spills2_any p A0 c0 rows x y W H w.heap.size (b1 + 1 + 1) b1 (b1 + 1) wr ((h.ext B3).ext hb) (fun y hy => by rw [hr y hy, hW0]) hH0 (by omega) (by omega) hx hy (T0w.under hb T0w.lt) (TF.under hb TF.lt) (TW.under hb TW.lt) (TH.under hb TH.lt)))
  have hWl : W ≤ 16 := by omega
  have hHl : H ≤ 16 := by omega
  rw [hH0, Nat.mul_comm H W] at GS
  have AL := Lib.hid (fun (x y : Nat) (hx : x < W) (hy : y < H) k hk hq => arL_adj (H := H) hx hy k hk hq)
  have AA := Lib.hid (fun (x y : Nat) (hx : x < W) (hy : y < H) j hj => arL_all (H := H) (j := j) hx hy hj)
  have PR := Lib.hid (fun (i : Nat) (hi : i < W * H) => pl_row hi)
  have MH := Lib.hid (fun w0 lo po A c vs O wr => measH_of (w0 := w0) (lo := lo) (po := po) (A := A) (c := c) (vs := vs) (W := W) (H := H) (O := O) (wr := wr))
  have hnl : W * H ≤ 256 := Nat.le_trans (Nat.mul_le_mul hWl hHl) (by decide)
  have hH1 : 0 < H := by omega
  have hW1 : 0 < W := by omega
  refine RM.out.mono ?_
  rintro e w5 ⟨A, c, vs, rfl, hm, hb2⟩
  have I2 : HeiInv w3 w3.heap.size w5.heap.size A c vs W H (fun i => if edgeB W H i then gF rows W i else 100) (w5.alloc (.cells #[.slice A H c] 31)) := ⟨Blk.made _ _ _, hm.ext (Ext.more (Ext.refl _) _), Ext.more hb2 _⟩
  have SS := start_sound (n := W * H) (G := gF rows W) (W := W) (F := fun i => edgeB W H i = true) (O := fun i => if edgeB W H i then gF rows W i else 100) GB.out (fun i hi => by
    cases e : edgeB W H i
    · exact .inr ⟨by simp, by simp⟩
    · exact .inl ⟨rfl, by simp⟩)
  have SS1 := Lib.hid SS.1
  have SS2 := Lib.hid SS.2
  have hz12 := hb2.size
  have hlo : w.heap.size + 2 ≤ w3.heap.size := by have := T4w.lt; omega
  clear SS hm hb2 RM h hok hW0 hr s1 s2 s3 s4 TW TH TF f0 f1 f2 c2 c1' T5 E1 E2 E3 T0 T4 BA kt0 hb1
  generalize (fun i => if edgeB W H i then gF rows W i else 100) = O1 at *
  obtain ⟨hn, hG⟩ := HNG.out
  rw [hn] at GB GS PR hnl SS1 SS2
  rw [hG] at GB SS1 SS2
  simp only [hn] at AL AA MH
  simp only [hG] at GA
  clear hn hG HNG
  go_wp2_with fail
  obtain ⟨lo, hlo'⟩ : ∃ lo, w3.heap.size = lo := ⟨_, rfl⟩
  obtain ⟨po, hpo⟩ : ∃ po, w5.heap.size = po := ⟨_, rfl⟩
  rw [hlo'] at I2 hlo hz12
  rw [hpo] at I2 hz12
  simp only [hpo]
  have BW := Lib.hid (fun O wr (I : HeiInv w3 lo po A c vs W H O wr) => B3.trans (I.ext.mono (show w.heap.size ≤ lo by omega)))
  generalize w5.alloc (.cells #[.slice A H c] 31) = wA at *
  have T4 := T4w
  -- (the loops: gen_spi.py)
  go_loopw [7] (fun v wr => ∃ O b, v = .bool b ∧ Hid (SoundP W n G (fun i => edgeB W H i = true) O) ∧ Hid (StartP n G (fun i => edgeB W H i = true) O) ∧ Hid (b = false → ClosedP W n G O) ∧ HeiInv w3 lo po A c vs W H O wr) (fun v wr => 2 * measH w3 lo po A c vs W H wr + bit1 v)
  case atStart => exact ⟨O1, true, rfl, SS1, SS2, fun h => (by cases h), I2⟩
  case round =>
    obtain ⟨O, b, rfl, hS, hT, hC, I⟩ := hrel
    clear SS1 SS2 I2
    have ME := Lib.hid (MH.out _ _ _ _ _ _ _ _ I)
    rw [ME.out]
    cases b
    · have hC' := Lib.hid (hC rfl)
      have z0 := I.box.cell 0
      have T4' := T4.under I.ext (show w.heap.size + 1 < lo by omega)
      have c4 := T4'.cell 0
      have f4 := T4'.free 0
      have cs := (T4'.store 0 (.slice A H c)).cell 0
      simp at z0 c4 cs
      have BE := Lib.hid (BW.out _ _ I)
      have lt0 := I.box.lt
      have I' := Lib.hid I
      clear I hC
      go_wp2_with fail
      refine bodyPost_ret (v := .agg #[.slice A H c]) (by simp [results, Try.results69, go_sem, cs]) rfl ⟨A, c, vs, O, rfl, ?_, IsPass.of_closed hS.out hT.out hC'.out, ?_⟩
      · have hk := I'.out.mat.keep ((Chg.refl (fun b => b < lo) wr).store (p := ⟨w.heap.size + 1, 0, none⟩) (by show w.heap.size + 1 < lo; omega) (.slice A H c)) (fun b h1 h2 h3 => by omega)
        have hz : (wr.setCell ⟨w.heap.size + 1, 0, none⟩ (.slice A H c)).heap.size = wr.heap.size := by simp [World.setCell]
        rw [hz]
        exact hk.low (by omega) (by omega)
      · exact BE.out.setCell (p := ⟨w.heap.size + 1, 0, none⟩) (by show w.heap.size ≤ w.heap.size + 1; omega) _
    · clear hC
      have lt0 := I.box.lt
      have kt := (T0w.under I.ext (show w.heap.size < lo by omega)).cell 0
      simp at kt
      go_wp2_with fail
      clear kt
      refine (GS.out _ (HB.out _ (BW.out _ _ I))).mono ?_
      rintro e w5 ⟨gS, cS, rfl, oS, hb5⟩
      have SP := own_spots oS (spG_length W n)
      have I5 := I.step hb5 (by omega)
      have hgS : po < gS := by have := (oS.lt gS rfl).1; omega
      have HA := Lib.hid (Half.init hS.out hT.out)
      clear oS hb5 I
      go_wp2_with fail
      go_loopw [7, 26] (fun v i wm => ∃ (k : Nat) (O' : Nat → Int) (b : Bool) (T : Nat → Nat → Prop), k ≤ n ∧ i = .int .i64 k ∧ v = .bool b ∧ Hid (Half W n G (fun i => edgeB W H i = true) O O' b T) ∧ Hid (∀ q s, adj W n q s → s < k → T q s) ∧ HeiInv w3 lo po A c vs W H O' wm ∧ SpAt wm gS (spG W n)) (fun _ i _ => n - (intOf i).toNat)
      case atStart => exact ⟨0, O, false, _, Nat.zero_le _, rfl, rfl, HA, fun q s _ h => absurd h (Nat.not_lt_zero _), I5, SP⟩
      case round =>
        obtain ⟨k, O', b, T, hk, rfl, rfl, hH, hT', Im, Sm⟩ := hrel
        clear SP I5 HA
        by_cases hlt : k < n
        · have hx : k % W < W := Nat.mod_lt _ (by omega)
          have hy : k / W < H := PR.out k hlt
          have hkl : k < (spG W n).length := by rw [spG_length]; exact hlt
          obtain ⟨c1, c2⟩ := Sm.2 k hkl
          have ek : k = k / W * W + k % W := (pl_eq k (by omega)).1
          simp only [spG, List.getElem_map, List.getElem_range] at c1 c2
          generalize k % W = x at *
          generalize k / W = y at *
          have EK := Lib.hid ek
          clear ek
          have i0 : (0 : Int) ≤ (k : Int) := by omega
          have i1 : (k : Int) < (n : Int) := by omega
          have hgS1 := Sm.1
          go_wp2_with fail
          have SB : SpAt (wr.alloc (.cells #[.int .i64 x, .int .i64 y] 28)) gS (spG W n) := Sm.ext (Ext.more (Ext.refl _) _)
          have IB : HeiInv w3 lo po A c vs W H O' (wr.alloc (.cells #[.int .i64 x, .int .i64 y] 28)) := Im.step (Ext.more (Ext.refl _) _) (by omega)
          have TB := Blk.made wr 28 #[.int .i64 x, .int .i64 y]
          have zb : (wr.alloc (.cells #[.int .i64 x, .int .i64 y] 28)).heap.size = wr.heap.size + 1 := by simp
          obtain ⟨bs, hbs⟩ : ∃ bs, wr.heap.size = bs := ⟨_, rfl⟩
          rw [hbs] at TB zb hgS1
          simp only [hbs]
          generalize wr.alloc (.cells #[.int .i64 x, .int .i64 y] 28) = wn at *
          clear c1 c2 Im Sm hbs
          refine (around_any x y _ (by omega) (by omega)).mono ?_
          rintro e w6 ⟨gA, cA, rfl, oA, hb6⟩
          have SA := own_spots oA (by rfl)
          have hgA := (oA.lt gA rfl).1
          rw [zb] at hgA
          have S6 := SB.ext hb6
          have I6 := IB.step hb6 (by omega)
          have T6 := TB.under hb6 TB.lt
          clear oA hb6 SB IB TB zb
          go_wp2_with fail
          go_loopw [7, 36] (fun v i wi => ∃ (j : Nat) (O' : Nat → Int) (b : Bool) (T : Nat → Nat → Prop), j ≤ 4 ∧ i = .int .i64 j ∧ v = .bool b ∧ Hid (Half W n G (fun i => edgeB W H i = true) O O' b T) ∧ Hid (∀ q s, adj W n q s → s < k → T q s) ∧ Hid (∀ i, i < j → inG W H ((arL x y).getD i (0, 0)) = true → T (plc W ((arL x y).getD i (0, 0))) k) ∧ HeiInv w3 lo po A c vs W H O' wi ∧ SpAt wi gS (spG W n) ∧ SpAt wi gA (arL x y) ∧ Blk wi bs 28 #[.int .i64 x, .int .i64 y]) (fun _ i _ => 4 - (intOf i).toNat)
          case atStart => exact ⟨0, O', b, T, by omega, rfl, rfl, hH, hT', fun i h => absurd h (Nat.not_lt_zero _), I6, S6, SA, T6⟩
          case round =>
            obtain ⟨j, O2, b2, T2, hj, rfl, rfl, hH2, hT2, hT3, I7, S7, A7, T7⟩ := hrel
            clear I6 S6 SA T6 hH hT'
            by_cases hjl : j < 4
            · obtain ⟨c1, c2⟩ := A7.2 j hjl
              have hq : (arL (x : Int) y).getD j (0, 0) = (arL (x : Int) y)[j]'hjl := by rw [List.getD_eq_getElem?_getD, List.getElem?_eq_getElem hjl]; rfl
              have AJ := Lib.hid (AL.out x y hx hy j hjl)
              rw [hq] at AJ
              have HQ := Lib.hid hq
              clear hq
              generalize (arL (x : Int) y)[j]'hjl = q at *
              obtain ⟨qx, qy⟩ := q
              simp only at c1 c2
              have i0 : (0 : Int) ≤ (j : Int) := by omega
              have i1 : (j : Int) < 4 := by omega
              have hgA1 := A7.1
              have hbs1 := T7.lt
              have kt := (T0w.under I7.ext (show w.heap.size < lo by omega)).cell 0
              simp at kt
              have ktl : w.heap.size < wr.heap.size := by have := I7.box.lt; omega
              go_wp2_with fail
              have SQ := S7.ext (Ext.more (Ext.refl wr) (.cells #[.int .i64 qx, .int .i64 qy] 28))
              have AQ := A7.ext (Ext.more (Ext.refl wr) (.cells #[.int .i64 qx, .int .i64 qy] 28))
              have IQ := I7.step (Ext.more (Ext.refl wr) (.cells #[.int .i64 qx, .int .i64 qy] 28)) (by omega)
              have TQ := T7.more (.cells #[.int .i64 qx, .int .i64 qy] 28)
              have TX := Blk.made wr 28 #[.int .i64 qx, .int .i64 qy]
              obtain ⟨bq, hbq⟩ : ∃ bq, wr.heap.size = bq := ⟨_, rfl⟩
              rw [hbq] at TX
              simp only [hbq]
              generalize wr.alloc (.cells #[.int .i64 qx, .int .i64 qy] 28) = wn at *
              clear c1 c2 S7 A7 I7 T7 hbq kt ktl
              refine (GH.out _ (HB.out _ (BW.out _ _ IQ)) qx qy).mono ?_
              rintro e w7 ⟨rfl, hb7⟩
              have S8 := SQ.ext hb7
              have A8 := AQ.ext hb7
              have I8 := IQ.step hb7 (by omega)
              have T8 := TQ.under hb7 TQ.lt
              have X8 := TX.under hb7 TX.lt
              clear hb7 SQ AQ IQ TQ TX hgA1 hbs1
              cases hin : inG W H (qx, qy)
              · have hin' := Lib.hid hin
                clear hin
                go_wp2_with fail
                go_roundw
                case rel =>
                  refine ⟨j + 1, O2, b2, T2, by omega, by go_num, rfl, hH2, hT2, fun i hi hq => ?_, I8, S8, A8, T8⟩
                  rcases Nat.lt_succ_iff_lt_or_eq.1 hi with h | h
                  · exact hT3.out i h hq
                  · subst h; rw [HQ.out, hin'.out] at hq; cases hq
                case measure => simp [intOf]; omega
              · have hqi := inG_iff.1 hin
                have AD := AJ.out hin
                obtain ⟨a, rfl⟩ : ∃ a : Nat, qx = a := ⟨qx.toNat, by have := hqi.1.1; simp only at this; omega⟩
                obtain ⟨d, rfl⟩ : ∃ d : Nat, qy = d := ⟨qy.toNat, by have := hqi.2.1; simp only at this; omega⟩
                have ha : a < W := by have := hqi.1.2; simp only at this; omega
                have hd : d < H := by have := hqi.2.2; simp only at this; omega
                have ep : plc W ((a : Int), (d : Int)) = d * W + a := by simp [plc]
                have HQ' : Hid (plc W ((arL x y).getD j (0, 0)) = d * W + a) := by rw [Hid, HQ.out, ep]
                rw [ep, ← EK.out] at AD
                have gb := GB.out k hlt
                have ok := hH2.out.sound _ AD.1
                have os := hH2.out.sound _ AD.2.1
                have AD := Lib.hid AD
                have u0 := T8.cell 0
                have u1 := T8.cell 1
                have v0 := X8.cell 0
                have v1 := X8.cell 1
                simp at u0 u1 v0 v1
                have tl := T8.lt
                have kt := (T0w.under I8.ext (show w.heap.size < lo by omega)).cell 0
                simp at kt
                have ktl : w.heap.size < w7.heap.size := by have := I8.box.lt; omega
                have xl := X8.lt
                have CG := Lib.hid (fun V (hb : Below w7.heap.size w7 V) => GA.out V (HB.out V (BW.out _ _ (I8.step hb (by omega)))) x y hx hy)
                have CO := Lib.hid (fun V (hb : Below w7.heap.size w7 V) => hei_at (I8.step hb (by omega)) ha hd)
                have CS := Lib.hid (fun V (hb : Below w7.heap.size w7 V) => hei_at (I8.step hb (by omega)) hx hy)
                rw [← EK.out] at CG CS
                clear hin hqi ep HQ AJ
                go_wp2_with fail
                refine wp_region_held_tail 5 (fun V => Below w7.heap.size w7 V) (by kernel_rfl) (by kernel_rfl) (Ext.refl _).drew ?_
                simp only [List.take_succ_cons, List.take_zero, List.drop_succ_cons, List.drop_zero]
                have ne : Nonempty (HeldW (fun V => Below w7.heap.size w7 V)) := ⟨⟨w7, Ext.refl _⟩⟩
                have k0 : ∀ i : HeldW (fun V => Below w7.heap.size w7 V), i.w.cell? ⟨bs, 0, none⟩ = some (.int .i64 x) := fun i => (i.h.cell (p := ⟨bs, 0, none⟩) tl).trans u0
                have k1 : ∀ i : HeldW (fun V => Below w7.heap.size w7 V), i.w.cell? ⟨bs, 1, none⟩ = some (.int .i64 y) := fun i => (i.h.cell (p := ⟨bs, 1, none⟩) tl).trans u1
                have k2 : ∀ i : HeldW (fun V => Below w7.heap.size w7 V), i.w.cell? ⟨bq, 0, none⟩ = some (.int .i64 a) := fun i => (i.h.cell (p := ⟨bq, 0, none⟩) xl).trans v0
                have k3 : ∀ i : HeldW (fun V => Below w7.heap.size w7 V), i.w.cell? ⟨bq, 1, none⟩ = some (.int .i64 d) := fun i => (i.h.cell (p := ⟨bq, 1, none⟩) xl).trans v1
                have k4 : ∀ i : HeldW (fun V => Below w7.heap.size w7 V), i.w.cell? ⟨w.heap.size, 0, none⟩ = some (.pointer (some ⟨p, 0, none⟩)) := fun i => (i.h.cell (p := ⟨w.heap.size, 0, none⟩) ktl).trans kt
                repeat (go_big_quiet_step (first
                  | (go_at_call_of 58 (Value.pointer (some ⟨po, 0, none⟩)); exact Calls.above_of _ (CO.out _ (HeldW.h _)))
                  | (go_at_call_of 58 (Value.pointer (some ⟨p, 0, none⟩)); exact Calls.above_of _ (CG.out _ (HeldW.h _)))))
                refine wpQuiet_nil ?_
                intro w8 hw'
                obtain ⟨⟨_, hb8⟩, rfl⟩ := hw'
                clear ne k0 k1 k2 k3 k4 kt ktl
                have T9 := T8.under hb8 tl
                have S9 := S8.ext hb8
                have A9 := A8.ext hb8
                have u2 := T9.cell 0
                have u3 := T9.cell 1
                simp at u2 u3
                generalize hoq : O2 (d * W + a) = oq at *
                generalize hgk : G k = gk at *
                have HOQ := Lib.hid hoq
                have HGK := Lib.hid hgk
                clear hoq hgk T9 S9 A9
                go_wp2_with fail
                · have hv : Hid (max (O2 (d * W + a)) (G k) = gk) := by
                    rw [Hid, HOQ.out, HGK.out]; omega
                  clear h
                  refine (CS.out _ hb8).mono ?_
                  rintro e w9 ⟨rfl, hb9⟩
                  have hb89 : Below w7.heap.size w7 w9 := Ext.then_ hb8 hb9
                  have I9 := I8.step hb89 (by omega)
                  have S9 := S8.ext hb89
                  have A9 := A8.ext hb89
                  have T9 := T8.under hb89 tl
                  obtain ⟨ov, hov⟩ : ∃ v, O2 k = v := ⟨_, rfl⟩
                  rw [hov]
                  have HOV := Lib.hid hov
                  clear hov hb8 hb9 hb89 T8 u2 u3
                  by_cases hl : gk < ov
                  · have IL := Lib.hid (hH2.out.low AD.out (by rw [HGK.out]; exact gb.1) (by rw [HGK.out]; exact gb.2) (by rw [hv.out, HOV.out]; exact hl))
                    rw [hv.out] at IL
                    obtain ⟨g, gr', cy', e, p2, p4, p5, p6, pW⟩ := I9.putW hx hy (by omega)
                    subst e
                    have z0 := I9.box.cell 0
                    have u2 := T9.cell 0
                    have u3 := T9.cell 1
                    simp at z0 u2 u3
                    have l0 := I9.box.lt
                    have l1 := T9.lt
                    have x0 : (0 : Int) ≤ (x : Int) := by omega
                    have x1 : (x : Int) < (W : Int) := by omega
                    have y0 : (0 : Int) ≤ (y : Int) := by omega
                    have y1 : (y : Int) < (H : Int) := by omega
                    go_wp2_with fail
                    refine wp_region_held_tail 10 (fun V => Below w9.heap.size w9 V) (by kernel_rfl) (by kernel_rfl) (Ext.refl _).drew ?_
                    simp only [List.take_succ_cons, List.take_zero, List.drop_succ_cons, List.drop_zero]
                    have ne : Nonempty (HeldW (fun V => Below w9.heap.size w9 V)) := ⟨⟨w9, Ext.refl _⟩⟩
                    have k0 : ∀ i : HeldW (fun V => Below w9.heap.size w9 V), i.w.cell? ⟨po, 0, none⟩ = some (.slice (some ⟨g, 0, none⟩) H c) := fun i => (i.h.cell (p := ⟨po, 0, none⟩) l0).trans z0
                    have k1 : ∀ i : HeldW (fun V => Below w9.heap.size w9 V), i.w.cell? ⟨bs, 0, none⟩ = some (.int .i64 x) := fun i => (i.h.cell (p := ⟨bs, 0, none⟩) l1).trans u2
                    have k2 : ∀ i : HeldW (fun V => Below w9.heap.size w9 V), i.w.cell? ⟨bs, 1, none⟩ = some (.int .i64 y) := fun i => (i.h.cell (p := ⟨bs, 1, none⟩) l1).trans u3
                    have k3 : ∀ i : HeldW (fun V => Below w9.heap.size w9 V), i.w.cell? ⟨g, y, none⟩ = some (.slice (some ⟨gr', 0, none⟩) W cy') := fun i => (pW i.w i.h).1
                    repeat (go_big_quiet_step (fail))
                    refine wpQuiet_nil ?_
                    intro wa hw'
                    obtain ⟨⟨_, hba⟩, rfl⟩ := hw'
                    clear ne k0 k1 k2 k3
                    obtain ⟨q1, q2, q3, q4⟩ := pW wa hba
                    have IA := q4 gk
                    rw [← EK.out] at IA
                    have SA := (S9.ext hba).put (p := ⟨gr', x, none⟩) (by show gS ≠ gr'; omega) (.int .i64 gk)
                    have AA' := (A9.ext hba).put (p := ⟨gr', x, none⟩) (by show gA ≠ gr'; omega) (.int .i64 gk)
                    have TA := (T9.under hba l1).apart (p := ⟨gr', x, none⟩) (by show bs ≠ gr'; omega) (.int .i64 gk)
                    have HX := Lib.hid (And.intro IA (And.intro SA (And.intro AA' TA)))
                    clear IA SA AA' TA I9 S9 A9 T9 hba pW q4
                    go_wp2_with fail
                    go_roundw
                    case rel =>
                      refine ⟨j + 1, _, true, _, by omega, by go_num, rfl, IL, fun q s ha hs => .inl (hT2.out q s ha hs), fun i hi hq => ?_, HX.out.1, HX.out.2.1, HX.out.2.2.1, HX.out.2.2.2⟩
                      rcases Nat.lt_succ_iff_lt_or_eq.1 hi with h | h
                      · exact .inl (hT3.out i h hq)
                      · subst h; exact .inr ⟨HQ'.out, rfl⟩
                    case measure => simp [intOf]; omega
                  · have IL := Lib.hid (hH2.out.stay (q := d * W + a) (s := k) (by rw [hv.out, HOV.out]; exact hl))
                    go_wp2_with fail
                    go_roundw
                    case rel =>
                      refine ⟨j + 1, _, b2, _, by omega, by go_num, rfl, IL, fun q s ha hs => .inl (hT2.out q s ha hs), fun i hi hq => ?_, I9, S9, A9, T9⟩
                      rcases Nat.lt_succ_iff_lt_or_eq.1 hi with h | h
                      · exact .inl (hT3.out i h hq)
                      · subst h; exact .inr ⟨HQ'.out, rfl⟩
                    case measure => simp [intOf]; omega
                · have hv : Hid (max (O2 (d * W + a)) (G k) = oq) := by
                    rw [Hid, HOQ.out, HGK.out]; omega
                  clear h
                  refine (CS.out _ hb8).mono ?_
                  rintro e w9 ⟨rfl, hb9⟩
                  have hb89 : Below w7.heap.size w7 w9 := Ext.then_ hb8 hb9
                  have I9 := I8.step hb89 (by omega)
                  have S9 := S8.ext hb89
                  have A9 := A8.ext hb89
                  have T9 := T8.under hb89 tl
                  obtain ⟨ov, hov⟩ : ∃ v, O2 k = v := ⟨_, rfl⟩
                  rw [hov]
                  have HOV := Lib.hid hov
                  clear hov hb8 hb9 hb89 T8 u2 u3
                  by_cases hl : oq < ov
                  · have IL := Lib.hid (hH2.out.low AD.out (by rw [HGK.out]; exact gb.1) (by rw [HGK.out]; exact gb.2) (by rw [hv.out, HOV.out]; exact hl))
                    rw [hv.out] at IL
                    obtain ⟨g, gr', cy', e, p2, p4, p5, p6, pW⟩ := I9.putW hx hy (by omega)
                    subst e
                    have z0 := I9.box.cell 0
                    have u2 := T9.cell 0
                    have u3 := T9.cell 1
                    simp at z0 u2 u3
                    have l0 := I9.box.lt
                    have l1 := T9.lt
                    have x0 : (0 : Int) ≤ (x : Int) := by omega
                    have x1 : (x : Int) < (W : Int) := by omega
                    have y0 : (0 : Int) ≤ (y : Int) := by omega
                    have y1 : (y : Int) < (H : Int) := by omega
                    go_wp2_with fail
                    refine wp_region_held_tail 10 (fun V => Below w9.heap.size w9 V) (by kernel_rfl) (by kernel_rfl) (Ext.refl _).drew ?_
                    simp only [List.take_succ_cons, List.take_zero, List.drop_succ_cons, List.drop_zero]
                    have ne : Nonempty (HeldW (fun V => Below w9.heap.size w9 V)) := ⟨⟨w9, Ext.refl _⟩⟩
                    have k0 : ∀ i : HeldW (fun V => Below w9.heap.size w9 V), i.w.cell? ⟨po, 0, none⟩ = some (.slice (some ⟨g, 0, none⟩) H c) := fun i => (i.h.cell (p := ⟨po, 0, none⟩) l0).trans z0
                    have k1 : ∀ i : HeldW (fun V => Below w9.heap.size w9 V), i.w.cell? ⟨bs, 0, none⟩ = some (.int .i64 x) := fun i => (i.h.cell (p := ⟨bs, 0, none⟩) l1).trans u2
                    have k2 : ∀ i : HeldW (fun V => Below w9.heap.size w9 V), i.w.cell? ⟨bs, 1, none⟩ = some (.int .i64 y) := fun i => (i.h.cell (p := ⟨bs, 1, none⟩) l1).trans u3
                    have k3 : ∀ i : HeldW (fun V => Below w9.heap.size w9 V), i.w.cell? ⟨g, y, none⟩ = some (.slice (some ⟨gr', 0, none⟩) W cy') := fun i => (pW i.w i.h).1
                    repeat (go_big_quiet_step (fail))
                    refine wpQuiet_nil ?_
                    intro wa hw'
                    obtain ⟨⟨_, hba⟩, rfl⟩ := hw'
                    clear ne k0 k1 k2 k3
                    obtain ⟨q1, q2, q3, q4⟩ := pW wa hba
                    have IA := q4 oq
                    rw [← EK.out] at IA
                    have SA := (S9.ext hba).put (p := ⟨gr', x, none⟩) (by show gS ≠ gr'; omega) (.int .i64 oq)
                    have AA' := (A9.ext hba).put (p := ⟨gr', x, none⟩) (by show gA ≠ gr'; omega) (.int .i64 oq)
                    have TA := (T9.under hba l1).apart (p := ⟨gr', x, none⟩) (by show bs ≠ gr'; omega) (.int .i64 oq)
                    have HX := Lib.hid (And.intro IA (And.intro SA (And.intro AA' TA)))
                    clear IA SA AA' TA I9 S9 A9 T9 hba pW q4
                    go_wp2_with fail
                    go_roundw
                    case rel =>
                      refine ⟨j + 1, _, true, _, by omega, by go_num, rfl, IL, fun q s ha hs => .inl (hT2.out q s ha hs), fun i hi hq => ?_, HX.out.1, HX.out.2.1, HX.out.2.2.1, HX.out.2.2.2⟩
                      rcases Nat.lt_succ_iff_lt_or_eq.1 hi with h | h
                      · exact .inl (hT3.out i h hq)
                      · subst h; exact .inr ⟨HQ'.out, rfl⟩
                    case measure => simp [intOf]; omega
                  · have IL := Lib.hid (hH2.out.stay (q := d * W + a) (s := k) (by rw [hv.out, HOV.out]; exact hl))
                    go_wp2_with fail
                    go_roundw
                    case rel =>
                      refine ⟨j + 1, _, b2, _, by omega, by go_num, rfl, IL, fun q s ha hs => .inl (hT2.out q s ha hs), fun i hi hq => ?_, I9, S9, A9, T9⟩
                      rcases Nat.lt_succ_iff_lt_or_eq.1 hi with h | h
                      · exact .inl (hT3.out i h hq)
                      · subst h; exact .inr ⟨HQ'.out, rfl⟩
                    case measure => simp [intOf]; omega
            · obtain rfl : j = 4 := by omega
              go_wp2_with fail
              go_roundw
              case rel =>
                refine ⟨k + 1, O2, b2, T2, by omega, by go_num, rfl, hH2, fun q s ha hs => ?_, I7, S7⟩
                by_cases e : s < k
                · exact hT2.out q s ha e
                · obtain rfl : s = k := by omega
                  have ha' := ha
                  rw [EK.out] at ha'
                  obtain ⟨i, hi, h1, h2⟩ := AA.out x y hx hy q ha'
                  have := hT3.out i hi h1
                  rwa [h2] at this
              case measure => simp [intOf]; omega
        · obtain rfl : k = n := by omega
          go_wp2_with fail
          go_roundw
          case rel =>
            refine ⟨O', b, rfl, hH.out.sound, hH.out.start, fun e => ?_, Im⟩
            subst e
            obtain ⟨rfl, h2⟩ := hH.out.no rfl
            exact fun q s ha => h2 q s ha (hT'.out q s ha ha.2.1)
          case measure =>
            rw [MH.out _ _ _ _ _ _ _ _ Im]
            cases b
            · obtain ⟨rfl, _⟩ := hH.out.no rfl
              show 2 * _ + 0 < 2 * _ + 1
              omega
            · have := hH.out.yes rfl
              show 2 * _ + 1 < 2 * _ + 1
              omega
end Go.Proofs.Ytajepoopicoodaa
