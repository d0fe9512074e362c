/- Simple pixels of pictures, a picture inside another, equal pictures: the program's and the laws'. -/
import Derived.Test.YtdhajndmebnknaaGreatThn
namespace Go.Proofs.YtdhajndmebnknaaGreat
open Go.RowKit

noncomputable def simpT (rows : List ByteArray) (e : Bool) (x y : Nat) : Bool := bit (picBits rows) (picW rows) rows.length x y && simpleD (picBits rows) (picW rows) rows.length e ((x : Int), (y : Int))
set_option maxRecDepth 100000 in
set_option maxHeartbeats 4000000 in
theorem isSimple_any (A : Option Addr) (cc : Nat) (rows : List ByteArray) (x y : Nat) (e : Bool) (w : World) (h : Rd w A (strs rows)) (hp : picOk rows = true) (hx : x < picW rows) (hy : y < rows.length) :
    Calls Tryz.prog 14 #[.agg #[.slice A rows.length cc], .agg #[.int .i64 x, .int .i64 y], .bool e] w fun e' w' => e' = .returned (.bool (simpT rows e x y)) ∧ Below w.heap.size w w' := by
  obtain ⟨s1, s2, s3, s4⟩ := picOk_sizes hp
  obtain ⟨V, hV⟩ : ∃ V, (w.alloc (.cells #[.slice A rows.length cc] 26)).alloc (.cells #[.int .i64 x, .int .i64 y] 38) = V := ⟨_, rfl⟩
  have EV : Below w.heap.size w V := by rw [← hV]; exact Ext.more (Ext.more (Ext.refl w) _) _
  have TP : Blk V w.heap.size 26 #[.slice A rows.length cc] := by rw [← hV]; exact (Blk.made w _ _).more _
  have TV : Blk V (w.heap.size + 1) 38 #[.int .i64 x, .int .i64 y] := by
    rw [← hV]
    have := Blk.made (w.alloc (.cells #[.slice A rows.length cc] 26)) 38 #[.int .i64 x, .int .i64 y]
    simpa using this
  have IM := Lib.hid ((imageOf_any A cc rows V (h.ext EV) (by omega)).mono (fun e w' hI => (show (∃ p g, e = .returned (.tuple #[.pointer (some ⟨p, 0, none⟩), .bool true]) ∧ Img w' p g (picW rows) rows.length (picBits rows)) ∧ Below V.heap.size V w' from ⟨(hI.yes hp).elim fun p h => h.elim fun g h => ⟨p, g, h.1, h.2.1⟩, hI.ext⟩)))
  have GK := Lib.hid (fun (p g : Nat) (U : World) (hU : Img U p g (picW rows) rows.length (picBits rows)) => ((get_anyG p g _ [] _ _ _ (x : Int) (y : Int) U hU.g (by omega) (by omega)).mono fun e' w' ⟨h1, k, h2⟩ => (show e' = Ending.returned (.bool (bit (picBits rows) (picW rows) rows.length (x : Int) (y : Int))) ∧ Below U.heap.size U w' from ⟨h1, by rw [h2]; exact Ext.drawN (Ext.refl _) _⟩)))
  have SK := Lib.hid (fun (p g : Nat) (U : World) (hU : Img U p g (picW rows) rows.length (picBits rows)) => simple_any p g _ [] _ _ _ (x : Int) (y : Int) e U hU.g (by omega) (by omega) (by omega) (by omega))
  have HV := Lib.hid hV
  have k0 := TP.cell 0
  have q0 := TV.cell 0
  have q1 := TV.cell 1
  have lq := TV.lt
  simp at k0 q0 q1
  clear h hp hV TP TV s1 s2 s3 s4 hx hy
  unfold simpT
  generalize bit (picBits rows) (picW rows) rows.length (x : Int) (y : Int) = bq at *
  generalize simpleD (picBits rows) (picW rows) rows.length e ((x : Int), (y : Int)) = sd at *
  generalize picBits rows = L at *
  generalize picW rows = W at *
  generalize rows.length = H at *
  go_enter Tryz.func14, Tryz.ntmps14
  go_upto_region 1 with fail
  rw [HV.out]
  go_wp2_with fail
  refine IM.out.mono ?_
  rintro e' w1 ⟨⟨p, g, rfl, hI⟩, hb⟩
  have EB := Lib.hid (Ext.then_ EV hb)
  have c0 := (hb.cell (p := ⟨w.heap.size + 1, 0, none⟩) lq).trans q0
  have c1 := (hb.cell (p := ⟨w.heap.size + 1, 1, none⟩) lq).trans q1
  have lq1 : w.heap.size + 1 < w1.heap.size := Nat.lt_of_lt_of_le lq hb.size
  have G1 := Lib.hid (fun U (hU : Below w1.heap.size w1 U) => GK.out p g U (hI.ext hU))
  have S1 := Lib.hid (fun U (hU : Below w1.heap.size w1 U) => SK.out p g U (hI.ext hU))
  clear IM GK SK HV EV hI hb q0 q1 k0 lq
  cases bq
  · go_wp2_with fail
    refine (G1.out _ (Ext.refl _)).mono ?_
    rintro e' w2 ⟨rfl, hb2⟩
    have HK := Lib.hid (Ext.then_ EB.out hb2)
    clear hb2 G1 S1 EB
    go_wp2_with fail
    go_ret
    exact ⟨rfl, HK.out⟩
  · go_wp2_with fail
    refine (G1.out _ (Ext.refl _)).mono ?_
    rintro e' w2 ⟨rfl, hb2⟩
    have HK := Lib.hid (Ext.then_ EB.out hb2)
    have d0 := (hb2.cell (p := ⟨w.heap.size + 1, 0, none⟩) lq1).trans c0
    have d1 := (hb2.cell (p := ⟨w.heap.size + 1, 1, none⟩) lq1).trans c1
    have S2 := Lib.hid (S1.out w2 hb2)
    clear hb2 G1 S1 EB c0 c1
    go_wp2_with fail
    refine S2.out.mono ?_
    rintro e' w3 ⟨rfl, hb3⟩
    have HK3 := Lib.hid (Ext.then_ HK.out hb3)
    clear hb3 S2 HK d0 d1
    go_wp2_with fail
    go_ret
    exact ⟨rfl, HK3.out⟩
set_option maxRecDepth 100000 in
set_option maxHeartbeats 1000000 in
theorem inside_any (p g q g2 W H : Nat) (L M : List Bool) (w : World) (h : Img w p g W H L) (h2 : Img w q g2 W H M) (hW : W ≤ 100) (hH : H ≤ 100) (hs : ∀ i, L.getD i false = true → M.getD i false = true) :
    Calls Tryz.prog 30 #[.pointer (some ⟨p, 0, none⟩), .pointer (some ⟨q, 0, none⟩)] w fun e' w' => e' = .returned (.bool true) ∧ Below w.heap.size w w' := by
  have c2 := h.hdr.cell 2
  have d2 := h2.hdr.cell 2
  simp at c2 d2
  have hWH : W * H ≤ 100 * 100 := Nat.mul_le_mul hW hH
  have KC : Hid (∀ i, i < W * H → ∀ V, Below w.heap.size w V → V.cell? ⟨q, 2, none⟩ = some (.slice (some ⟨g2, 0, none⟩) (W * H) (W * H)) ∧ ∃ b b', V.cell? ⟨g, i, none⟩ = some (.bool b) ∧ V.cell? ⟨g2, i, none⟩ = some (.bool b') ∧ (b = true → b' = true)) := by
    intro i hi V hb
    refine ⟨(hb.cell (p := ⟨q, 2, none⟩) h2.hdr.lt).trans d2, L.getD i false, M.getD i false, ?_, ?_, hs i⟩
    · rw [hb.cell (p := ⟨g, i, none⟩) h.bits.lt, h.bits.cell i]
      simp [boolC, h.len, hi, List.getD_eq_getElem?_getD]
    · rw [hb.cell (p := ⟨g2, i, none⟩) h2.bits.lt, h2.bits.cell i]
      simp [boolC, h2.len, hi, List.getD_eq_getElem?_getD]
  have hsz : ((W * H : Nat) : Int) ≤ 10000 := by omega
  clear h h2 hs d2
  generalize W * H = n at *
  go_enter Tryz.func30, Tryz.ntmps30
  go_wp2_with fail
  clear c2
  go_loopw [12] (fun i wr => ∃ k : Nat, k ≤ n ∧ i = .int .i64 k ∧ Below w.heap.size w wr) (fun i _ => n - (intOf i).toNat)
  case atStart => exact ⟨0, Nat.zero_le _, rfl, Ext.refl _⟩
  case round =>
    obtain ⟨k, hk, rfl, hb⟩ := hrel
    by_cases hlt : k < n
    · obtain ⟨d2, b, b', e1, e2, hbb⟩ := KC.out k hlt wr hb
      have hb1 := Lib.hid hb
      have zk : (0 : Int) ≤ (k : Int) := by omega
      have ck : (k : Int) < (n : Int) := by omega
      have wk : IntKind.i64.wrap ((k : Int) + 1) = ((k + 1 : Nat) : Int) := by rw [IntWalk.i64_in _ (by omega)]; simp
      clear hb KC
      cases b
      · clear hbb
        go_wp2_with fail
        exact ⟨⟨k + 1, by omega, by simp, hb1.out⟩, by simp [intOf]; omega⟩
      · have := hbb rfl
        subst this
        clear hbb
        go_wp2_with fail
        exact ⟨⟨k + 1, by omega, by simp, hb1.out⟩, by simp [intOf]; omega⟩
    · have : k = n := by omega
      subst this
      have hb1 := Lib.hid hb
      clear hb KC hlt
      go_wp2_with fail
      go_ret
      exact ⟨rfl, hb1.out⟩
set_option maxRecDepth 100000 in
set_option maxHeartbeats 1000000 in
theorem twoImages_any (A B : Option Addr) (ca cb : Nat) (rows rowt : List ByteArray) (w : World) (h : Rd w A (strs rows)) (k : Rd w B (strs rowt)) (hp : picOk rows = true) (hq : picOk rowt = true) (hw : picW rows = picW rowt) (hh : rows.length = rowt.length) :
    Calls Tryz.prog 29 #[.agg #[.slice A rows.length ca], .agg #[.slice B rowt.length cb]] w fun e' w' => ∃ p g q g2, e' = .returned (.tuple #[.pointer (some ⟨p, 0, none⟩), .pointer (some ⟨q, 0, none⟩), .bool true]) ∧ Img w' p g (picW rows) rows.length (picBits rows) ∧ Img w' q g2 (picW rows) rows.length (picBits rowt) ∧ Below w.heap.size w w' := by
  obtain ⟨s1, s2, s3, s4⟩ := picOk_sizes hp
  obtain ⟨V, hV⟩ : ∃ V, (w.alloc (.cells #[.slice A rows.length ca] 26)).alloc (.cells #[.slice B rowt.length cb] 26) = V := ⟨_, rfl⟩
  have EV : Below w.heap.size w V := by rw [← hV]; exact Ext.more (Ext.more (Ext.refl w) _) _
  have TP : Blk V w.heap.size 26 #[.slice A rows.length ca] := by rw [← hV]; exact (Blk.made w _ _).more _
  have TV : Blk V (w.heap.size + 1) 26 #[.slice B rowt.length cb] := by
    rw [← hV]
    have := Blk.made (w.alloc (.cells #[.slice A rows.length ca] 26)) 26 #[.slice B rowt.length cb]
    simpa using this
  have IM := Lib.hid ((imageOf_any A ca rows V (h.ext EV) (by omega)).mono (fun e w' hI => (show (∃ p g, e = .returned (.tuple #[.pointer (some ⟨p, 0, none⟩), .bool true]) ∧ Img w' p g (picW rows) rows.length (picBits rows)) ∧ Below V.heap.size V w' from ⟨(hI.yes hp).elim fun p h => h.elim fun g h => ⟨p, g, h.1, h.2.1⟩, hI.ext⟩)))
  have IN := Lib.hid (fun U (hU : Below w.heap.size w U) => (imageOf_any B cb rowt U (k.ext hU) (by omega)).mono (fun e w' hI => (show (∃ p g, e = .returned (.tuple #[.pointer (some ⟨p, 0, none⟩), .bool true]) ∧ Img w' p g (picW rows) rows.length (picBits rowt)) ∧ Below U.heap.size U w' from ⟨(hI.yes hq).elim fun p h => h.elim fun g h => ⟨p, g, h.1, by rw [hw, hh]; exact h.2.1⟩, hI.ext⟩)))
  have HV := Lib.hid hV
  have k0 := TP.cell 0
  have q0 := TV.cell 0
  have lq := TV.lt
  simp at k0 q0
  clear h k hp hq hV TP TV s1 s2 s3 s4 hw
  rw [← hh] at *
  clear hh
  generalize picBits rows = L at *
  generalize picBits rowt = M at *
  generalize picW rows = W at *
  generalize rows.length = H at *
  go_enter Tryz.func29, Tryz.ntmps29
  go_upto_region 1 with fail
  rw [HV.out]
  go_wp2_with fail
  refine IM.out.mono ?_
  rintro e' w1 ⟨⟨p, g, rfl, hI⟩, hb⟩
  have EB := Ext.then_ EV hb
  have d0 := (hb.cell (p := ⟨w.heap.size + 1, 0, none⟩) lq).trans q0
  have I1 := Lib.hid (IN.out w1 EB)
  clear IM IN HV EV hb q0 k0 lq
  go_wp2_with fail
  refine I1.out.mono ?_
  rintro e' w2 ⟨⟨q, g2, rfl, hJ⟩, hb2⟩
  have hI2 := hI.ext hb2
  have HO : Hid (Img w2 p g W H L ∧ Img w2 q g2 W H M ∧ Below w.heap.size w w2) := ⟨hI2, hJ, Ext.then_ EB hb2⟩
  have a0 := hI2.hdr.cell 0
  have a1 := hI2.hdr.cell 1
  have b0 := hJ.hdr.cell 0
  have b1 := hJ.hdr.cell 1
  simp at a0 a1 b0 b1
  clear hI I1 EB hb2 d0
  have pl := hI2.hdr.lt
  have ql := hJ.hdr.lt
  clear hI2 hJ
  have ew : ((W : Int) == W) = true := by simp
  have eh : ((H : Int) == H) = true := by simp
  go_upto_region 3 with fail
  refine wp_region_held_quiet (fun U => Below w2.heap.size w2 U) (by kernel_rfl) (by kernel_rfl) (Ext.refl _).drew ?_
  have ne : Nonempty (HeldW (fun U => Below w2.heap.size w2 U)) := ⟨⟨w2, Ext.refl _⟩⟩
  have u0 : ∀ i : HeldW (fun U => Below w2.heap.size w2 U), i.w.cell? ⟨p, 0, none⟩ = _ := fun i => (i.h.cell (p := ⟨p, 0, none⟩) pl).trans a0
  have u1 : ∀ i : HeldW (fun U => Below w2.heap.size w2 U), i.w.cell? ⟨p, 1, none⟩ = _ := fun i => (i.h.cell (p := ⟨p, 1, none⟩) pl).trans a1
  have v0 : ∀ i : HeldW (fun U => Below w2.heap.size w2 U), i.w.cell? ⟨q, 0, none⟩ = _ := fun i => (i.h.cell (p := ⟨q, 0, none⟩) ql).trans b0
  have v1 : ∀ i : HeldW (fun U => Below w2.heap.size w2 U), i.w.cell? ⟨q, 1, none⟩ = _ := fun i => (i.h.cell (p := ⟨q, 1, none⟩) ql).trans b1
  repeat (go_big_quiet_step (fail))
  refine wpQuiet_nil ?_
  intro _ hw'
  obtain ⟨⟨wz, hb2⟩, rfl⟩ := hw'
  have HK := Lib.hid (And.intro (HO.out.1.ext hb2) (And.intro (HO.out.2.1.ext hb2) (Ext.then_ HO.out.2.2 hb2)))
  clear ne u0 u1 v0 v1 HO hb2 a0 a1 b0 b1
  go_wp2_with fail
  refine bodyPost_ret (v := .tuple #[.pointer (some ⟨p, 0, none⟩), .pointer (some ⟨q, 0, none⟩), .bool true]) (by simp [results, Tryz.results29, go_sem]) rfl ?_
  exact ⟨p, g, q, g2, rfl, HK.out⟩
set_option maxRecDepth 100000 in
set_option maxHeartbeats 1000000 in
theorem isInside_any (A B : Option Addr) (ca cb : Nat) (rows rowt : List ByteArray) (w : World) (h : Rd w A (strs rows)) (k : Rd w B (strs rowt)) (hp : picOk rows = true) (hq : picOk rowt = true) (hw : picW rows = picW rowt) (hh : rows.length = rowt.length) (hs : ∀ i, (picBits rows).getD i false = true → (picBits rowt).getD i false = true) :
    Calls Tryz.prog 11 #[.agg #[.slice A rows.length ca], .agg #[.slice B rowt.length cb]] w fun e' w' => e' = .returned (.bool true) ∧ Below w.heap.size w w' := by
  obtain ⟨s1, s2, s3, s4⟩ := picOk_sizes hp
  have EV : Below w.heap.size w ((w.alloc (.cells #[.slice A rows.length ca] 26)).alloc (.cells #[.slice B rowt.length cb] 26)) := Ext.more (Ext.more (Ext.refl w) _) _
  have TW := Lib.hid (twoImages_any A B ca cb rows rowt _ (h.ext EV) (k.ext EV) hp hq hw hh)
  have IS := Lib.hid (fun p g q g2 V (hI : Img V p g (picW rows) rows.length (picBits rows)) (hJ : Img V q g2 (picW rows) rows.length (picBits rowt)) => inside_any p g q g2 _ _ _ _ V hI hJ (by omega) (by omega) hs)
  clear h k hp hq hw hs s1 s2 s3 s4
  rw [← hh] at *
  clear hh
  go_enter Tryz.func11, Tryz.ntmps11
  go_wp2_with fail
  refine TW.out.mono ?_
  rintro e' w1 ⟨p, g, q, g2, rfl, hI, hJ, hb⟩
  have I1 := Lib.hid (IS.out p g q g2 w1 hI hJ)
  have HB := Lib.hid (Ext.then_ EV hb)
  clear hI hJ hb IS TW EV
  go_wp2_with fail
  refine I1.out.mono ?_
  rintro e' w2 ⟨rfl, hb2⟩
  have HB2 := Lib.hid (Ext.then_ HB.out hb2)
  clear hb2 I1 HB
  go_wp2_with fail
  go_ret
  exact ⟨rfl, HB2.out⟩
set_option maxRecDepth 100000 in
set_option maxHeartbeats 1000000 in
theorem b10Same_any (A B : Option Addr) (ca cb : Nat) (rows : List ByteArray) (w : World) (h : Rd w A (strs rows)) (k : Rd w B (strs rows)) (h0 : 0 < rows.length) (h1 : rows.length ≤ 1000000) :
    Calls Tryz.prog 10 #[.agg #[.slice A rows.length ca], .agg #[.slice B rows.length cb]] w fun e' w' => e' = .returned (.bool true) ∧ Below w.heap.size w w' := by
  obtain ⟨V, hV⟩ : ∃ V, (w.alloc (.cells #[.slice A rows.length ca] 26)).alloc (.cells #[.slice B rows.length cb] 26) = V := ⟨_, rfl⟩
  have EV : Below w.heap.size w V := by rw [← hV]; exact Ext.more (Ext.more (Ext.refl w) _) _
  have TP : Blk V w.heap.size 26 #[.slice A rows.length ca] := by rw [← hV]; exact (Blk.made w _ _).more _
  have TV : Blk V (w.heap.size + 1) 26 #[.slice B rows.length cb] := by
    rw [← hV]
    have := Blk.made (w.alloc (.cells #[.slice A rows.length ca] 26)) 26 #[.slice B rows.length cb]
    simpa using this
  have hl : (strs rows).length = rows.length := by simp [strs]
  obtain ⟨g, rfl, hg, hc⟩ := h (by rw [hl]; exact h0)
  obtain ⟨g2, rfl, hg2, hc2⟩ := k (by rw [hl]; exact h0)
  have KC : Hid (∀ i (hi : i < rows.length), ∀ U, Below V.heap.size V U → U.cell? ⟨w.heap.size, 0, none⟩ = some (.slice (some ⟨g, 0, none⟩) rows.length ca) ∧ U.cell? ⟨w.heap.size + 1, 0, none⟩ = some (.slice (some ⟨g2, 0, none⟩) rows.length cb) ∧ ∃ s, U.cell? ⟨g, i, none⟩ = some (.string s) ∧ U.cell? ⟨g2, i, none⟩ = some (.string s)) := by
    intro i hi U hb
    have p0 := TP.cell 0
    have p1 := TV.cell 0
    simp at p0 p1
    have hbw : Below w.heap.size w U := Ext.then_ EV hb
    refine ⟨(hb.cell (p := ⟨w.heap.size, 0, none⟩) TP.lt).trans p0, (hb.cell (p := ⟨w.heap.size + 1, 0, none⟩) TV.lt).trans p1, rows[i], ?_, ?_⟩
    · rw [hbw.cell (p := ⟨g, i, none⟩) hg, hc i (by rw [hl]; exact hi)]; simp [strs]
    · rw [hbw.cell (p := ⟨g2, i, none⟩) hg2, hc2 i (by rw [hl]; exact hi)]; simp [strs]
  have HV := Lib.hid hV
  have HE := Lib.hid EV
  have t0 := TP.lt
  have t1 := TV.lt
  obtain ⟨z0, z1, _⟩ := KC.out 0 h0 V (Ext.refl V)
  have tg : g < V.heap.size := Nat.lt_of_lt_of_le hg EV.size
  have tg2 : g2 < V.heap.size := Nat.lt_of_lt_of_le hg2 EV.size
  clear TP TV hV EV hl hc hc2 hg hg2 h k
  generalize rows.length = n at *
  have hn0 : ((n : Int) > 0) := by omega
  go_enter Tryz.func10, Tryz.ntmps10
  go_upto_region 1 with fail
  rw [HV.out]
  go_wp2_with fail
  clear z0 z1
  go_loopw [5] (fun i wr => ∃ k : Nat, k ≤ n ∧ i = .int .i64 k ∧ Below V.heap.size V wr) (fun i _ => n - (intOf i).toNat)
  case atStart => exact ⟨0, Nat.zero_le _, rfl, Ext.refl _⟩
  case round =>
    obtain ⟨k, hk, rfl, hb⟩ := hrel
    by_cases hlt : k < n
    · obtain ⟨z0, z1, s, e1, e2⟩ := KC.out k hlt wr hb
      have hb1 := Lib.hid hb
      have zk : (0 : Int) ≤ (k : Int) := by omega
      have ck : (k : Int) < (n : Int) := by omega
      have wk : IntKind.i64.wrap ((k : Int) + 1) = ((k + 1 : Nat) : Int) := by rw [IntWalk.i64_in _ (by omega)]; simp
      have l0 := Nat.lt_of_lt_of_le t0 hb.size
      have l1 := Nat.lt_of_lt_of_le t1 hb.size
      have l2 := Nat.lt_of_lt_of_le tg hb.size
      have l3 := Nat.lt_of_lt_of_le tg2 hb.size
      clear hb KC
      go_upto_region 6 with fail
      refine wp_region_held_quiet (fun U => Below wr.heap.size wr U) (by kernel_rfl) (by kernel_rfl) (Ext.refl _).drew ?_
      have ne : Nonempty (HeldW (fun U => Below wr.heap.size wr U)) := ⟨⟨wr, Ext.refl _⟩⟩
      have u0 : ∀ i : HeldW (fun U => Below wr.heap.size wr U), i.w.cell? ⟨w.heap.size, 0, none⟩ = _ := fun i => (i.h.cell (p := ⟨w.heap.size, 0, none⟩) l0).trans z0
      have u1 : ∀ i : HeldW (fun U => Below wr.heap.size wr U), i.w.cell? ⟨w.heap.size + 1, 0, none⟩ = _ := fun i => (i.h.cell (p := ⟨w.heap.size + 1, 0, none⟩) l1).trans z1
      have u2 : ∀ i : HeldW (fun U => Below wr.heap.size wr U), i.w.cell? ⟨g, k, none⟩ = _ := fun i => (i.h.cell (p := ⟨g, k, none⟩) l2).trans e1
      have u3 : ∀ i : HeldW (fun U => Below wr.heap.size wr U), i.w.cell? ⟨g2, k, none⟩ = _ := fun i => (i.h.cell (p := ⟨g2, k, none⟩) l3).trans e2
      repeat (go_big_quiet_step (fail))
      refine wpQuiet_nil ?_
      intro _ hw'
      obtain ⟨⟨wz, hb2⟩, rfl⟩ := hw'
      have HK := Lib.hid (Ext.then_ hb1.out hb2)
      clear ne u0 u1 u2 u3 hb2 z0 z1 e1 e2
      go_wp2_with fail
      exact ⟨⟨k + 1, by omega, by simp, HK.out⟩, by simp [intOf]; omega⟩
    · have : k = n := by omega
      subst this
      obtain ⟨z0, z1, _⟩ := KC.out 0 h0 wr hb
      have hb1 := Lib.hid hb
      clear hb KC hlt
      go_wp2_with fail
      go_ret
      exact ⟨rfl, Ext.then_ HE.out hb1.out⟩
end Go.Proofs.YtdhajndmebnknaaGreat
