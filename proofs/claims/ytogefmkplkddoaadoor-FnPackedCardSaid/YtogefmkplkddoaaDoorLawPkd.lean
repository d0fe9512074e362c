/- The law FnPacked: its walk. -/
import Derived.Test.YtogefmkplkddoaaDoorPkdP
import Derived.Test.YtogefmkplkddoaaDoorDsq
import Derived.Test.YtogefmkplkddoaaDoorTrT
import Derived.Test.YtogefmkplkddoaaDoorTrV
import Derived.Test.YtogefmkplkddoaaDoorTrL
import Derived.Test.YtogefmkplkddoaaDoorUtU
import Derived.Test.YtogefmkplkddoaaDoorUpp
import Derived.Test.YtogefmkplkddoaaDoorNumI
import Derived.Deep.CutRange
import Derived.Deep.DeepCutAuto
import Derived.Deep.RegionHeld3
namespace Go.Proofs.YtogefmkplkddoaaDoor
open Go.RowKit

theorem matNum {w : World} {A : Option Addr} {rows : List (List Int)} (h : MatRd w A rows) {y x : Nat} (hy : y < rows.length) (hx : x < rows[y].length) :
    ∃ g gr cy, A = some ⟨g, 0, none⟩ ∧ g < w.heap.size ∧ w.cell? ⟨g, y, none⟩ = some (.slice (some ⟨gr, 0, none⟩) rows[y].length cy) ∧ gr < w.heap.size ∧ w.cell? ⟨gr, x, none⟩ = some (.int .i64 rows[y][x]) := by
  obtain ⟨g, rfl, hg, hc⟩ := h (by omega)
  obtain ⟨Ay, cy, k1, k2⟩ := hc y hy
  obtain ⟨gr, rfl, hgr, hcr⟩ := k2 (by simp [ints]; omega)
  refine ⟨g, gr, cy, rfl, hg, k1, hgr, ?_⟩
  have := hcr x (by simpa [ints] using hx)
  simpa [ints] using this
theorem sdN_pow {m : Nat} (h : m ≤ 4) : sdB ((2 ^ m : Nat) : Int) = true ∧ sdN ((2 ^ m : Nat) : Int) = m := by
  rcases (show m = 0 ∨ m = 1 ∨ m = 2 ∨ m = 3 ∨ m = 4 by omega) with rfl | rfl | rfl | rfl | rfl <;> decide
theorem ex_cut (s : ByteArray) (k : Nat) : (s.extract 0 k).data.toList ++ s.data.toList.drop k = s.data.toList := by
  rw [ex_list, List.drop_zero, Nat.sub_zero, List.take_append_drop]
theorem lf_small : ∀ (n : Nat) (T : QT), T.fits n = true → ∀ x y a, ∀ l ∈ T.lf n x y a, l.x ≤ x + 2 ^ n ∧ l.y ≤ y + 2 ^ n ∧ l.s ≤ 2 ^ n
  | n, .leaf b, _, x, y, a, l, h => by
    cases n <;> (simp [QT.lf] at h; subst h; simp)
  | 0, .node .., h, _, _, _, _, _ => by cases h
  | n + 1, .node p q r s, h, x, y, a, l, hl => by
    have e2 : 2 ^ (n + 1) = 2 ^ n + 2 ^ n := by rw [Nat.pow_succ]; omega
    simp only [QT.fits, Bool.and_eq_true] at h
    simp only [QT.lf, List.mem_append] at hl
    rcases hl with hl | hl | hl | hl
    · have := lf_small n p h.1 _ _ _ l hl; omega
    · have := lf_small n q h.2.1 _ _ _ l hl; omega
    · have := lf_small n r h.2.2.1 _ _ _ l hl; omega
    · have := lf_small n s h.2.2.2 _ _ _ l hl; omega
/-- What the law reads of a picture's code. -/
structure PicF (W H : Nat) (L : List Bool) (s : ByteArray) : Prop where
  pos : 0 < s.size
  few : s.size ≤ 2000
  yes : uOk s = true ∧ uV s = rowsTo L W H
  cut : ∀ k, k < s.size → uOk (s.extract 0 k) = false
  more : uOk (s ++ ⟨#[49]⟩) = false
theorem picF {L : List Bool} {W H : Nat} (hW : 1 ≤ W ∧ W ≤ 8) (hH : 1 ≤ H ∧ H ≤ 8) (hL : L.length = W * H) : PicF W H L (packB (rowsTo L W H)) := by
  have hu := up_pack hW hH hL
  have hsz : (packB (rowsTo L W H)).size ≤ 2000 := by
    have h := hu.1
    rw [uOk, uSz, nmB, nmR] at h
    by_cases hh : (packB (rowsTo L W H)).size ≤ 2000
    · exact hh
    · rw [if_neg hh] at h; simp at h
  refine ⟨?_, hsz, ⟨hu.1, by rw [uV, if_pos hu.1]; exact hu.2⟩, fun k hk => ?_, ?_⟩
  · have := pack_cd (L := L) (W := W) (H := H) (by omega) hL
    show 0 < (packB (rowsTo L W H)).data.size
    rw [← Array.length_toList, this, pkN, cdL_cons, List.length_append, codeL_length]
    have := bins_len_pos (n := W) (by omega)
    omega
  · refine up_not hW hH hL (t := (packB (rowsTo L W H)).data.toList.drop k) ?_ (.inl (ex_cut _ k))
    intro e
    have := congrArg List.length e
    rw [List.length_drop] at this
    have hl : (packB (rowsTo L W H)).data.toList.length = (packB (rowsTo L W H)).size := Array.length_toList
    rw [List.length_nil] at this
    omega
  · exact up_not hW hH hL (t := [49]) (by simp) (.inr (by simp))
/-- What the law reads of a tree's code. -/
structure TreF (m : Nat) (T : QT) (tt pk : ByteArray) : Prop where
  tr : trO ((2 ^ m : Nat) : Int) tt = some T
  txt : tt = ⟨T.txt.toArray⟩
  pkE : pk = ⟨(T.pk m).toArray⟩
  pos : 0 < pk.size
  few : pk.size ≤ 2000
  yes : utO ((2 ^ m : Nat) : Int) pk = some T
  cut : ∀ k, k < pk.size → utO ((2 ^ m : Nat) : Int) (pk.extract 0 k) = none
  more : utO ((2 ^ m : Nat) : Int) (pk ++ ⟨#[48]⟩) = none
  short : tt.size ≤ 2000
theorem treF {m : Nat} (hm : m ≤ 4) (f : Nat → Nat → Bool) : TreF m (qtf m f) (bsT (qtf m f).txt) ⟨((qtf m f).pk m).toArray⟩ := by
  obtain ⟨s1, s2⟩ := sdN_pow hm
  have hf := qtf_fits m f
  have hn := qtf_nrm m f
  have h4 : 4 ^ m ≤ 4 ^ 4 := Nat.pow_le_pow_right (by decide) hm
  have hl := pk_len m (qtf m f) hf
  have ht := txt_len m (qtf m f) hf
  have hz : (ByteArray.mk ((qtf m f).pk m).toArray).size = ((qtf m f).pk m).length := by simp [ByteArray.size]
  refine ⟨trO_of s1 rfl (by rw [s2]; exact hf) hn, rfl, rfl, ?_, by rw [hz]; omega, utO_some s1 (by rw [hz]; omega) (by rw [s2]; exact hf) hn (by rw [s2]), fun k hk => ?_, ?_, by rw [bsT_size]; omega⟩
  · rw [hz]
    have := (bits_pk m (qtf m f) hf 0 0 ByteArray.empty).2
    cases hq : qtf m f with
    | leaf b => cases m <;> simp [QT.pk]
    | node => cases m <;> simp [QT.pk]
  · refine ut_not (T := qtf m f) (t := ((qtf m f).pk m).drop k) (by rw [s2]; exact hf) ?_ (.inl (by rw [s2]; exact ex_cut ⟨((qtf m f).pk m).toArray⟩ k))
    intro e
    have := congrArg List.length e
    rw [List.length_drop] at this
    simp at this
    omega
  · exact ut_not (T := qtf m f) (t := [48]) (by rw [s2]; exact hf) (by simp) (.inr (by rw [s2]; simp))
theorem bits_take {L : List Lf} {k : Nat} (h : k < L.length) : bitsL (L.take (k + 1)) = bitsL (L.take k) + if 1 < L[k].s then 2 else 1 := by
  rw [List.take_succ_eq_append_getElem h, bitsL_app]
  simp [bitsL]
set_option maxRecDepth 100000 in
set_option maxHeartbeats 8000000 in
theorem lawPkd_any (A B : Option Addr) (n cA m cB : Nat) (l1 l2 : List Int) (w : World) (hA : BytesAt w A n l1) (hB : BytesAt w B m l2) (hn : n ≤ maxLen) (hm : m ≤ maxLen) :
    Calls Tryd.prog 8 #[.slice A n cA, .slice B m cB] w fun e w' => e = .returned (.bool true) ∧ Below w.heap.size w w' := by
  have LH := Lib.hid (fun W => long_any A B n cA m cB hn hm W)
  generalize (decide (48 < n) || decide (48 < m)) = b at LH
  cases b
  case true =>
    clear hA
    go_enter Tryd.func8, Tryd.ntmps8
    go_wp2_with fail
    refine (LH.out _).mono ?_
    rintro e w' ⟨rfl, rfl⟩
    go_wp2_with fail
    go_ret
    exact ⟨rfl, Ext.refl _⟩
  have R8 := Lib.hid (r8Picture_any A n cA l1 w hA hn)
  have AT := Lib.hid (fun V (hV : Below w.heap.size w V) (i : Nat) (z : Int) (hi : i ≤ 1000) (h1 : 1 ≤ z) (h2 : z ≤ 100000) => bAt_any B l2 m cB i z V (hB.ext hV) hm hi h1 h2)
  have SQ := Lib.hid (fun V (hV : Below w.heap.size w V) => r8Square_any B m cB l2 V (hB.ext hV) hm)
  clear hA hB hn hm
  go_enter Tryd.func8, Tryd.ntmps8
  go_wp2_with fail
  refine (LH.out _).mono ?_
  rintro e w' ⟨rfl, rfl⟩
  go_wp2_with fail
  refine (R8.out).mono ?_
  rintro e w1 ⟨A1, c1, W, H, L, rfl, hW0, hW, hH0, hH, hL, own1, hb1⟩
  have PF := picF (L := L) ⟨hW0, hW⟩ ⟨hH0, hH⟩ hL
  have PP := Lib.hid (fun (A : Option Addr) (c : Nat) (V : World) (h : Rd V A (strs (rowsTo L W H))) => by
    have := packPicture_any A c (rowsTo L W H) V h (by rw [rowsTo_length]; omega)
    have ok := told_ok (L := L) hW0 (show W ≤ 16 by omega) hH0 (show H ≤ 16 by omega)
    rw [rowsTo_length, ok, packV, if_pos ok] at this
    exact this)
  have SM := Lib.hid (fun (A B : Option Addr) (c d : Nat) (V : World) (h1 : Rd V A (strs (rowsTo L W H))) (h2 : Rd V B (strs (rowsTo L W H))) => by
    have := same_any A B c d (rowsTo L W H) V h1 h2 (by rw [rowsTo_length]; omega)
    rw [rowsTo_length] at this
    exact this)
  obtain ⟨s, hs⟩ : ∃ s, packB (rowsTo L W H) = s := ⟨_, rfl⟩
  rw [hs] at PF PP
  have UP : Hid (∀ V, Calls Tryd.prog 22 #[.string s] V fun e w' => ∃ A c, e = .returned (.tuple #[.agg #[.slice A H c], .bool true]) ∧ w'.ownsRow V.heap.size 9 1 (.slice A H c) H (strs (rowsTo L W H)) ∧ Below V.heap.size V w') := fun V => by
    refine (unpackPicture_any s V (by have := PF.few; omega)).mono ?_
    rintro e w' ⟨A, c, h1, h2, h3⟩
    rw [PF.yes.1, PF.yes.2, rowsTo_length] at h1
    rw [PF.yes.2, rowsTo_length] at h2
    exact ⟨A, c, h1, h2, h3⟩
  have UN : Hid (∀ (z : ByteArray) V, uOk z = false → z.size ≤ 1000000 → Calls Tryd.prog 22 #[.string z] V fun e w' => (∃ A n c, e = .returned (.tuple #[.agg #[.slice A n c], .bool false])) ∧ Below V.heap.size V w') := fun z V h hz => by
    refine (unpackPicture_any z V (by omega)).mono ?_
    rintro e w' ⟨A, c, h1, _, h3⟩
    rw [h] at h1
    exact ⟨⟨_, _, _, h1⟩, h3⟩
  have s1 := PF.pos
  have s2 := PF.few
  have HPF := Lib.hid PF
  clear hs PF hL
  have B1 := Ext.more hb1 (.cells #[.slice A1 H c1] 36)
  have T5 := Blk.made w1 36 #[.slice A1 H c1]
  replace own1 := own1.alloc (.cells #[.slice A1 H c1] 36)
  clear hb1
  have PP1 := Lib.hid (PP.out A1 c1 _ (Rd.of_own own1))
  obtain ⟨wa, hwa⟩ : ∃ wa, w1.alloc (.cells #[.slice A1 H c1] 36) = wa := ⟨_, rfl⟩
  rw [hwa] at B1 T5 own1 PP1
  have HWA := Lib.hid hwa
  have k5 := T5.cell 0
  simp at k5
  clear hwa PP
  go_wp2_with fail
  try simp only [HWA.out]
  refine PP1.out.mono ?_
  rintro e w2 ⟨rfl, hb⟩
  replace B1 := Ext.then_ B1 hb
  replace own1 := own_ext hb own1
  replace T5 := T5.under hb T5.lt
  clear hb k5 PP1
  go_wp2_with fail
  refine (UP.out _).mono ?_
  rintro e w3 ⟨A3, c3, rfl, own3, hb⟩
  replace B1 := Ext.more (Ext.then_ B1 hb) (.cells #[.slice A3 H c3] 36)
  replace own1 := (own_ext hb own1).alloc (.cells #[.slice A3 H c3] 36)
  replace own3 := own3.alloc (.cells #[.slice A3 H c3] 36)
  replace T5 := (T5.under hb T5.lt).more (.cells #[.slice A3 H c3] 36)
  have T8 := Blk.made w3 36 #[.slice A3 H c3]
  have SM1 := Lib.hid (SM.out A3 A1 c3 c1 _ (Rd.of_own own3) (Rd.of_own own1))
  obtain ⟨wb, hwb⟩ : ∃ wb, w3.alloc (.cells #[.slice A3 H c3] 36) = wb := ⟨_, rfl⟩
  rw [hwb] at B1 T5 T8 SM1
  have HWB := Lib.hid hwb
  have k5 := T5.cell 0
  have k8 := T8.cell 0
  simp at k5 k8
  have q0 : ((s.size : Int) == 0) = false := by rw [beq_eq_false_iff_ne]; omega
  clear hwb SM UP own1 own3 hb
  go_upto_region 6 with fail
  try simp only [HWB.out]
  go_wp2_with (go_at_call 28; refine SM1.out.mono ?_; rintro e w4 ⟨rfl, hb⟩)
  replace B1 := Ext.then_ B1 hb
  clear hb k5 k8 SM1 T5 T8
  have AT0 := AT.out _ B1 0 (s.size : Int) (by decide) (by omega) (by omega)
  have ab := atI_bd (l := l2) 0 (n := (s.size : Int)) (by omega)
  obtain ⟨k, hk⟩ : ∃ k : Nat, atI l2 0 (s.size : Int) = (k : Int) := ⟨(atI l2 0 (s.size : Int)).toNat, by omega⟩
  rw [hk] at AT0 ab
  have HAT0 := Lib.hid AT0
  have k1 : k < s.size := by omega
  have k2 : (k : Int) ≤ (s.size : Int) := by omega
  have k3 : (0 : Int) ≤ (k : Int) := by omega
  have UC := Lib.hid (fun V => UN.out (s.extract 0 k) V (HPF.out.cut k k1) (by rw [ByteArray.size_extract]; omega))
  have UM := Lib.hid (fun V => UN.out (s ++ ⟨#[49]⟩) V HPF.out.more (by rw [ByteArray.size_append, show (ByteArray.mk #[49]).size = 1 from rfl]; omega))
  have t1 : ¬ 9223372036854775807 < s.size + 1 := by omega
  clear AT0 ab hk
  go_wp2_with fail
  refine HAT0.out.mono ?_
  rintro e w5 ⟨rfl, rfl⟩
  go_wp2_with fail
  refine (UC.out _).mono ?_
  rintro e w5 ⟨⟨A5, n5, c5, rfl⟩, hb⟩
  replace B1 := Ext.more (Ext.then_ B1 hb) (.cells #[.slice A5 n5 c5] 36)
  obtain ⟨w6, hw6⟩ : ∃ w6, w5.alloc (.cells #[.slice A5 n5 c5] 36) = w6 := ⟨_, rfl⟩
  rw [hw6] at B1
  have HW6 := Lib.hid hw6
  clear hw6 hb UC
  go_wp2_with fail
  try simp only [HW6.out]
  refine (UM.out _).mono ?_
  rintro e w7 ⟨⟨A7, n7, c7, rfl⟩, hb⟩
  replace B1 := Ext.more (Ext.then_ B1 hb) (.cells #[.slice A7 n7 c7] 36)
  obtain ⟨w8, hw8⟩ : ∃ w8, w7.alloc (.cells #[.slice A7 n7 c7] 36) = w8 := ⟨_, rfl⟩
  rw [hw8] at B1
  have HW8 := Lib.hid hw8
  have SQ1 := Lib.hid (SQ.out _ B1)
  clear hw8 hb UM UN SQ
  go_wp2_with fail
  try simp only [HW8.out]
  refine SQ1.out.mono ?_
  rintro e w9 ⟨Aq, cq, m4, L2, rfl, hm4, hL2, ownq, hb⟩
  have p0 : 0 < 2 ^ m4 := Nat.pow_pos (by decide)
  have p1 : 2 ^ m4 ≤ 2 ^ 4 := Nat.pow_le_pow_right (by decide) hm4
  have TF := treF hm4 (sqF (fun a b => bit L2 (2 ^ m4) (2 ^ m4) a b) 0 0)
  have TO := Lib.hid (fun (A : Option Addr) (c : Nat) (V : World) (h : Rd V A (strs (rowsTo L2 (2 ^ m4) (2 ^ m4)))) => by
    have := treeOfI_any A c m4 (rowsTo L2 (2 ^ m4) (2 ^ m4)) V h (told_ok p0 (by omega) p0 (by omega)) hm4 (rowsTo_length _ _ _) (told_w p0)
    rw [rowsTo_length, told_bits p0 hL2] at this
    exact this)
  have hff := qtf_fits m4 (sqF (fun a b => bit L2 (2 ^ m4) (2 ^ m4) a b) 0 0)
  generalize qtf m4 (sqF (fun a b => bit L2 (2 ^ m4) (2 ^ m4) a b) 0 0) = T at *
  obtain ⟨tt, htt⟩ : ∃ tt, bsT T.txt = tt := ⟨_, rfl⟩
  rw [htt] at TO TF
  obtain ⟨pk, hpk⟩ : ∃ pk, ByteArray.mk (T.pk m4).toArray = pk := ⟨_, rfl⟩
  rw [hpk] at TF
  have hpl : pk.size = (T.pk m4).length := by rw [← hpk]; simp [ByteArray.size]
  obtain ⟨bl1, bl2⟩ := bits_pk m4 T hff 0 0 ByteArray.empty
  have LFS := lf_small m4 T hff 0 0 ByteArray.empty
  obtain ⟨sd1, sd2⟩ := sdN_pow hm4
  have PTC : Hid (∀ V, Calls Tryd.prog 32 #[.agg #[.int .i64 ((2 ^ m4 : Nat) : Int), .string tt]] V fun e w' => e = .returned (.tuple #[.string pk, .bool true]) ∧ Below V.heap.size V w') := fun V => by
    have := packTreeI_any ((2 ^ m4 : Nat) : Int) tt V (by have := TF.short; omega)
    rw [(pt_yes TF.tr).1, (pt_yes TF.tr).2, sd2, hpk] at this
    exact this
  have UTC : Hid (∀ V, Calls Tryd.prog 33 #[.int .i64 ((2 ^ m4 : Nat) : Int), .string pk] V fun e w' => e = .returned (.tuple #[.agg #[.int .i64 ((2 ^ m4 : Nat) : Int), .string tt], .bool true]) ∧ Below V.heap.size V w') := fun V => by
    have := utI_any ((2 ^ m4 : Nat) : Int) pk V (by have := TF.few; omega)
    unfold UtRes at this
    rw [TF.yes, utV, ← TF.txt] at this
    exact this
  have UTN : Hid (∀ (z : ByteArray) V, utO ((2 ^ m4 : Nat) : Int) z = none → z.size ≤ 1000000 → Calls Tryd.prog 33 #[.int .i64 ((2 ^ m4 : Nat) : Int), .string z] V fun e w' => e = .returned (.tuple #[.agg #[.int .i64 0, .string ⟨#[]⟩], .bool false]) ∧ Below V.heap.size V w') := fun z V h hz => by
    have := utI_any ((2 ^ m4 : Nat) : Int) z V (by omega)
    unfold UtRes at this
    rw [h] at this
    exact this
  have LVC : Hid (∀ V, Calls Tryd.prog 34 #[.agg #[.int .i64 ((2 ^ m4 : Nat) : Int), .string tt]] V fun e w' => ∃ A c vs, e = .returned (.tuple #[.slice A (T.lf m4 0 0 ByteArray.empty).length c, .bool true]) ∧
      MatAt w' V.heap.size w'.heap.size A c vs ((T.lf m4 0 0 ByteArray.empty).map lfR) ∧ Below V.heap.size V w') := fun V => by
    have h4 : 4 ^ m4 ≤ 4 ^ 4 := Nat.pow_le_pow_right (by decide) hm4
    have hl := lf_len m4 T hff 0 0 ByteArray.empty
    have := leavesOfI_any ((2 ^ m4 : Nat) : Int) tt T V (by have := TF.short; omega) TF.tr (by rw [sd2]; omega) (fun l hl => by rw [sd2] at hl; have := LFS l hl; omega)
    rw [sd2] at this
    exact this
  have u1 := TF.pos
  have u2 := TF.few
  have HTF := Lib.hid TF
  clear hpk htt sd1 sd2 TF hL2
  rw [← hpl] at bl2
  have LF2 : ∀ l ∈ T.lf m4 0 0 ByteArray.empty, l.s ≤ 16 := fun l hl => by have := LFS l hl; omega
  have hLen : (T.lf m4 0 0 ByteArray.empty).length ≤ 256 := by
    have h4 : 4 ^ m4 ≤ 4 ^ 4 := Nat.pow_le_pow_right (by decide) hm4
    have hl := lf_len m4 T hff 0 0 ByteArray.empty
    omega
  clear hpl
  generalize T.inn = inn at *
  have UCK := Lib.hid (fun k hk => HTF.out.cut k hk)
  have UMK := Lib.hid HTF.out.more
  clear LFS hff HTF
  generalize T.lf m4 0 0 ByteArray.empty = LL at *
  generalize 2 ^ m4 = S at *
  obtain ⟨N, hN⟩ : ∃ N, LL.length = N := ⟨_, rfl⟩
  have HN := Lib.hid hN
  rw [hN] at LVC hLen bl1
  have HBL := Lib.hid (And.intro bl1 bl2)
  have HLF2 := Lib.hid LF2
  clear hN bl1 bl2 LF2
  replace B1 := Ext.more (Ext.then_ B1 hb) (.cells #[.slice Aq S cq] 36)
  have TO1 := Lib.hid (TO.out Aq cq _ (Rd.of_own (ownq.alloc (.cells #[.slice Aq S cq] 36))))
  have T14 := Blk.made w9 36 #[.slice Aq S cq]
  obtain ⟨w10, hw10⟩ : ∃ w10, w9.alloc (.cells #[.slice Aq S cq] 36) = w10 := ⟨_, rfl⟩
  rw [hw10] at B1 TO1 T14
  have k14 := T14.cell 0
  simp at k14
  have HW10 := Lib.hid hw10
  clear hw10 hb TO ownq
  go_upto_region 11 with fail
  try simp only [HW10.out]
  go_wp2_with fail
  refine TO1.out.mono ?_
  rintro e w11 ⟨rfl, hb⟩
  replace B1 := Ext.more (Ext.then_ B1 hb) (.cells #[.int .i64 S, .string tt] 45)
  have T15 := Blk.made w11 45 #[.int .i64 S, .string tt]
  obtain ⟨w12, hw12⟩ : ∃ w12, w11.alloc (.cells #[.int .i64 S, .string tt] 45) = w12 := ⟨_, rfl⟩
  rw [hw12] at B1 T15
  have HW12 := Lib.hid hw12
  have k0 := T15.cell 0
  have k1' := T15.cell 1
  simp at k0 k1'
  clear hw12 hb TO1 HW10
  go_upto_region 12 with fail
  try simp only [HW12.out]
  go_wp2_with fail
  refine (PTC.out _).mono ?_
  rintro e w13 ⟨rfl, hb⟩
  replace B1 := Ext.then_ B1 hb
  replace T15 := T15.under hb T15.lt
  have k0 := T15.cell 0
  have k1' := T15.cell 1
  simp at k0 k1'
  clear hb PTC HW12
  go_wp2_with fail
  refine (UTC.out _).mono ?_
  rintro e w14 ⟨rfl, hb⟩
  replace B1 := Ext.more (Ext.then_ B1 hb) (.cells #[.int .i64 S, .string tt] 45)
  replace T15 := (T15.under hb T15.lt).more (.cells #[.int .i64 S, .string tt] 45)
  have T19 := Blk.made w14 45 #[.int .i64 S, .string tt]
  obtain ⟨w15, hw15⟩ : ∃ w15, w14.alloc (.cells #[.int .i64 S, .string tt] 45) = w15 := ⟨_, rfl⟩
  rw [hw15] at B1 T15 T19
  have HW15 := Lib.hid hw15
  have k0 := T15.cell 0
  have k1' := T15.cell 1
  simp at k0 k1'
  clear hw15 hb UTC
  go_upto_region 14 with fail
  try simp only [HW15.out]
  go_wp2_with fail
  refine (LVC.out _).mono ?_
  rintro e w16 ⟨AL, cL, vsL, rfl, ML, hb⟩
  replace B1 := Ext.then_ B1 hb
  replace T15 := T15.under hb T15.lt
  replace T19 := T19.under hb T19.lt
  have k0 := T15.cell 0
  have k1' := T15.cell 1
  have j0 := T19.cell 0
  have j1 := T19.cell 1
  simp at k0 k1' j0 j1
  have e5 : tt.toList = tt.toList := rfl
  have q5 : ((pk.size : Int) == 0) = false := by rw [beq_eq_false_iff_ne]; omega
  clear hb LVC HW15
  have ab := atI_bd (l := l2) 1 (n := (pk.size : Int)) (by omega)
  obtain ⟨kk, hkk⟩ : ∃ k : Nat, atI l2 1 (pk.size : Int) = (k : Int) := ⟨(atI l2 1 (pk.size : Int)).toNat, by omega⟩
  rw [hkk] at ab
  have k2 : (kk : Int) ≤ (pk.size : Int) := by omega
  have k3 : (0 : Int) ≤ (kk : Int) := by omega
  have UC := Lib.hid (fun V => UTN.out (pk.extract 0 kk) V (UCK.out kk (by omega)) (by rw [ByteArray.size_extract]; omega))
  have UM := Lib.hid (fun V => UTN.out (pk ++ ⟨#[48]⟩) V UMK.out (by rw [ByteArray.size_append, show (ByteArray.mk #[48]).size = 1 from rfl]; omega))
  have AT1 : Hid (∀ V, Below w.heap.size w V → Calls Tryd.prog 29 #[.slice B m cB, .int .i64 1, .int .i64 pk.size] V fun e w' => e = .returned (.int .i64 kk) ∧ V = w') := fun V hV => by
    have := AT.out V hV 1 (pk.size : Int) (by decide) (by omega) (by omega)
    rw [hkk] at this
    exact this
  have t1 : ¬ 9223372036854775807 < pk.size + 1 := by omega
  have tl := T15.lt
  have SS := Lib.hid (fun V (hb : Below w16.heap.size w16 V) => (show Below w16.heap.size w16 V ∧ V.cell? ⟨w11.heap.size, 0, none⟩ = some (.int .i64 S) from ⟨hb, (hb.cell (p := ⟨w11.heap.size, 0, none⟩) tl).trans k0⟩))
  clear ab hkk UCK UMK UTN
  go_upto_region 17 with fail
  clear T19 j0 j1 e5 HWA HWB HW6 HW8 HPF
  go_cut [24] (fun s24 wx => s24 = .bool false ∧ Below w16.heap.size w16 wx)
  case first =>
    go_region_held3 (fun V => Below w16.heap.size w16 V ∧ V.cell? ⟨w11.heap.size, 0, none⟩ = some (.int .i64 S))
      (first
        | exact SS.out _ (Ext.draw (Ext.refl _)) | exact SS.out _ h17 | exact SS.out _ (Ext.more (Ext.draw (Ext.refl _)) _) | exact SS.out _ (Ext.draw (Ext.more (Ext.refl _) _)) | exact SS.out _ (Ext.more h17 _)
        | exact SS.out _ (((Ext.more h17 _).setCell (p := ⟨w17.heap.size, 0, none⟩) (by show w16.heap.size ≤ w17.heap.size; omega) _).setCell (p := ⟨w17.heap.size, 1, none⟩) (by show w16.heap.size ≤ w17.heap.size; omega) _)
        | exact SS.out _ ((h17.setCell (p := ⟨w16.heap.size, 0, none⟩) (Nat.le_refl _) _).setCell (p := ⟨w16.heap.size, 1, none⟩) (Nat.le_refl _) _)
        | go_keep)
      (first
        | (go_at_call 29; refine (AT1.out _ (by first | exact Ext.draw B1 | exact Ext.more (Ext.draw B1) _ | exact Ext.draw (Ext.more B1 _))).mono ?_; rintro e w' ⟨rfl, rfl⟩)
        | (go_at_call 33; refine (UC.out _).mono ?_; rintro e w17 ⟨rfl, hb'⟩; have h17 : Below w16.heap.size w16 w17 := (by first | exact Ext.undraw hb' | exact Ext.then_ (Ext.draw (Ext.more (Ext.refl w16) _)) hb' | exact Ext.then_ (Ext.more (Ext.draw (Ext.refl w16)) _) hb'); have z17 := h17.size; try (have T23 : Blk w17 w16.heap.size 45 #[.int .i64 0, .string ⟨#[]⟩] := (by first | exact (Blk.made w16.drew _ _).under hb' (by simp) | exact Blk.under (w := (w16.alloc _).drew) (Blk.made w16 _ _) hb' (by simp)); have b0 := T23.cell 0; have b1 := T23.cell 1; have f0 := T23.free 0; have f1 := T23.free 1; simp at b0 b1)))
    all_goals as_aux_lemma =>
      have h17' : Below w16.heap.size w16 w17 := h17
      go_wp2_with fail
      go_meet
      first
        | exact ⟨rfl, ((Ext.more h17' _).setCell (p := ⟨w17.heap.size, 0, none⟩) (by show w16.heap.size ≤ w17.heap.size; omega) _).setCell (p := ⟨w17.heap.size, 1, none⟩) (by show w16.heap.size ≤ w17.heap.size; omega) _⟩
        | exact ⟨rfl, (h17'.setCell (p := ⟨w16.heap.size, 0, none⟩) (Nat.le_refl _) _).setCell (p := ⟨w16.heap.size, 1, none⟩) (Nat.le_refl _) _⟩
        | exact ⟨rfl, Ext.more h17' _⟩
        | exact ⟨rfl, h17'⟩
  case rest =>
  obtain ⟨rfl, HX⟩ := hcut
  have TX := T15.under HX T15.lt
  have x0 := TX.cell 0
  simp at x0
  have ML2 := Lib.hid (fun V (hb : Below w16.heap.size w16 V) => (ML.ext hb).rd)
  have TK := Lib.hid (fun k (h : k < LL.length) => bits_take h)
  have hq : ((N : Int) - 1).tdiv 3 = (inn : Int) := by
    have := HBL.out.1
    rw [Int.tdiv_eq_ediv_of_nonneg (by omega)]; omega
  have hin : inn ≤ 100 := by have := HBL.out.1; omega
  have HN2 := Lib.hid (show ∀ k, k ≤ N → bitsL (LL.take k) ≤ 2 * k from fun k hk => by
    induction k with
    | zero => simp [bitsL]
    | succ k ih =>
      rw [bits_take (by rw [HN.out]; omega)]
      have := ih (by omega)
      split <;> omega)
  clear ML T15 TX k0 k1' SS AT1 UC
  go_wp2_with fail
  refine (UM.out _).mono ?_
  rintro e w18 ⟨rfl, hb⟩
  have HX2 := Ext.more (Ext.then_ HX hb) (.cells #[.int .i64 0, .string ⟨#[]⟩] 45)
  obtain ⟨w19, hw19⟩ : ∃ w19, w18.alloc (.cells #[.int .i64 0, .string ⟨#[]⟩] 45) = w19 := ⟨_, rfl⟩
  rw [hw19] at HX2
  have HW19 := Lib.hid hw19
  clear hw19 hb x0 HX UM
  go_wp2_with fail
  try simp only [HW19.out]
  go_loopw [27, 28] (fun bv iv wr => ∃ i : Nat, i ≤ N ∧ iv = .int .i64 i ∧ bv = .int .i64 ((inn + bitsL (LL.take i) : Nat) : Int) ∧ wr = w19) (fun _ iv _ => N - (intOf iv).toNat)
  case atStart => exact ⟨0, Nat.zero_le _, rfl, by simp [bitsL], rfl⟩
  case round =>
    obtain ⟨i, hi, rfl, rfl, hwr⟩ := hrel
    obtain rfl : w19 = wr := hwr.symm
    by_cases hlt : i < N
    · have hil : i < LL.length := by rw [HN.out]; exact hlt
      obtain ⟨gL, gr, cy, rfl, hgL, m1, hgr, m2⟩ := matNum (ML2.out _ HX2) (y := i) (x := 2) (by rw [List.length_map]; exact hil) (by simp [lfR])
      have lz : LL[i].s ≤ 16 := HLF2.out _ (List.getElem_mem _)
      have bt := TK.out i hil
      have HBT := Lib.hid bt
      have hbi := HN2.out i hi
      have m3 : ((LL.map lfR)[i]'(by rw [List.length_map]; exact hil)).length = 4 := by simp [lfR]
      have m4' : ((LL.map lfR)[i]'(by rw [List.length_map]; exact hil))[2]'(by rw [m3]; decide) = (LL[i].s : Int) := by simp [lfR]
      rw [m3] at m1
      rw [m4'] at m2
      clear m3 m4' bt
      generalize LL[i].s = sz at *
      have i0 : (0 : Int) ≤ (i : Int) := by omega
      have i1 : (i : Int) < (N : Int) := by omega
      by_cases hs1 : 1 < sz
      · have q1 : (1 : Int) < (sz : Int) := by omega
        have R : Hid (bitsL (LL.take (i + 1)) = bitsL (LL.take i) + 2) := by rw [Hid, HBT.out, if_pos hs1]
        generalize bitsL (LL.take i) = bt at *
        clear HBT
        go_wp2_with fail
        go_roundw
        case rel => exact ⟨i + 1, by omega, by go_num, by rw [R.out]; go_num, by trivial⟩
        case measure => simp [intOf]; omega
      · have q1 : ¬ (1 : Int) < (sz : Int) := by omega
        have R : Hid (bitsL (LL.take (i + 1)) = bitsL (LL.take i) + 1) := by rw [Hid, HBT.out, if_neg hs1]
        generalize bitsL (LL.take i) = bt at *
        clear HBT
        go_wp2_with fail
        go_roundw
        case rel => exact ⟨i + 1, by omega, by go_num, by rw [R.out]; go_num, by trivial⟩
        case measure => simp [intOf]; omega
    · obtain rfl : i = N := by omega
      have BE : Hid (((inn + bitsL (LL.take i) : Nat) : Int) = (pk.size : Int)) := by
        have h1 := HBL.out.2
        have h2 : LL.take i = LL := by rw [← HN.out]; exact List.take_length
        rw [Hid, h2, ← h1]
      generalize inn + bitsL (LL.take i) = bz at *
      have BE2 := BE.out
      clear hq
      have BX : Below w.heap.size w w19 := Ext.then_ B1 HX2
      have b5 := atI_bd (l := l2) 2 (n := (6 : Int)) (by decide)
      obtain ⟨K, hK⟩ : ∃ K : Nat, atI l2 2 (6 : Int) = (K : Int) := ⟨(atI l2 2 (6 : Int)).toNat, by omega⟩
      have ATK : Hid (∀ V, Below w.heap.size w V → Calls Tryd.prog 29 #[.slice B m cB, .int .i64 2, .int .i64 6] V fun e w' => e = .returned (.int .i64 K) ∧ V = w') := fun V hV => by
        have := AT.out V hV 2 (6 : Int) (by decide) (by decide) (by decide)
        rw [hK] at this
        exact this
      have hK5 : K ≤ 5 := by omega
      clear hK b5 HN2 TK ML2 HLF2 HBL
      have OW0 : (w19.alloc (.cells #[] 2)).ownsRow w19.heap.size 2 1 (.slice (some ⟨w19.heap.size, 0, none⟩) 0 0) 0 (ints (([] : List Nat).map fun n : Nat => (n : Int))) := World.ownsRow_lit (e := 2) (size := 1) w19 #[] 0 (Nat.le_refl _) (by decide) rfl
      have BW0 : Below w19.heap.size w19 (w19.alloc (.cells #[] 2)) := Ext.more (Ext.refl _) _
      go_wp2_with fail
      go_loopw [29, 30, 31, 32, 33, 34] (fun nv av iv _ _ _ wx => ∃ (k : Nat) (ns : List Nat) (g c : Nat), k ≤ K ∧ iv = .int .i64 k ∧ nv = .slice (some ⟨g, 0, none⟩) k c ∧ av = .string ⟨(cdL ns).toArray⟩ ∧ Hid (ns.length = k ∧ ∀ n ∈ ns, 1 ≤ n ∧ n ≤ 1000000000) ∧ (cdL ns).length ≤ 61 * k ∧
        wx.ownsRow w19.heap.size 2 1 (.slice (some ⟨g, 0, none⟩) k c) k (ints (ns.map fun n : Nat => (n : Int))) ∧ Below w19.heap.size w19 wx) (fun _ _ iv _ _ _ _ => K - (intOf iv).toNat)
      case atStart => exact ⟨0, [], _, _, Nat.zero_le _, rfl, rfl, rfl, ⟨rfl, fun _ h => absurd h (by simp)⟩, by simp [cdL], OW0, BW0⟩
      case round =>
        obtain ⟨k, ns, g, c, hk, rfl, rfl, rfl, hI, hlen, hown, hbx⟩ := hrel
        clear OW0 BW0
        have BY := Ext.then_ BX hbx
        by_cases hlt2 : k < K
        · have q1 : (k : Int) < (K : Int) := by omega
          have ba := atI_bd (l := l2) (k + 3) (n := (256 : Int)) (by decide)
          have bb := atI_bd (l := l2) (k + 4) (n := (256 : Int)) (by decide)
          obtain ⟨a, ha⟩ : ∃ a : Nat, atI l2 (k + 3) (256 : Int) = (a : Int) := ⟨(atI l2 (k + 3) (256 : Int)).toNat, by omega⟩
          obtain ⟨b, hb⟩ : ∃ b : Nat, atI l2 (k + 4) (256 : Int) = (b : Int) := ⟨(atI l2 (k + 4) (256 : Int)).toNat, by omega⟩
          have A3 : Hid (∀ V, Below w.heap.size w V → Calls Tryd.prog 29 #[.slice B m cB, .int .i64 ((k : Int) + 3), .int .i64 256] V fun e w' => e = .returned (.int .i64 a) ∧ V = w') := fun V hV => by
            have := AT.out V hV (k + 3) (256 : Int) (by omega) (by decide) (by decide)
            rw [ha, show ((k + 3 : Nat) : Int) = (k : Int) + 3 from by omega] at this
            exact this
          have A4 : Hid (∀ V, Below w.heap.size w V → Calls Tryd.prog 29 #[.slice B m cB, .int .i64 ((k : Int) + 4), .int .i64 256] V fun e w' => e = .returned (.int .i64 b) ∧ V = w') := fun V hV => by
            have := AT.out V hV (k + 4) (256 : Int) (by omega) (by decide) (by decide)
            rw [hb, show ((k + 4 : Nat) : Int) = (k : Int) + 4 from by omega] at this
            exact this
          rw [ha] at ba
          rw [hb] at bb
          have pab : a * b ≤ 255 * 255 := Nat.mul_le_mul (by omega) (by omega)
          obtain ⟨pp, hpp⟩ : ∃ pp, a * b = pp := ⟨_, rfl⟩
          have e1 : (a : Int) * (b : Int) = (pp : Int) := by rw [← hpp]; simp
          rw [hpp] at pab
          have NC : Hid (∀ V, Calls Tryd.prog 35 #[.int .i64 (1 + (pp : Int))] V fun e w' => e = .returned (.tuple #[.string (codeB (pp + 1)), .bool true]) ∧ Below V.heap.size V w') := fun V => by
            have := codeOfNumber_any (1 + (pp : Int)) V
            have ok : numOk (1 + (pp : Int)) = true := inB_iff.2 ⟨by omega, by omega⟩
            rw [numCode, ok, if_pos rfl, show (1 + (pp : Int)).toNat = pp + 1 from by omega] at this
            exact this
          have cs := codeB_size (n := pp + 1) (by omega)
          have cz : (ByteArray.mk (cdL ns).toArray).size = (cdL ns).length := by simp [ByteArray.size]
          have ncl : (codeB (pp + 1)).size = (codeL (pp + 1)).length := by simp [ByteArray.size, codeB]
          have J : Hid (ByteArray.mk (cdL ns).toArray ++ codeB (pp + 1) = ⟨(cdL (ns ++ [pp + 1])).toArray⟩ ∧ (cdL (ns ++ [pp + 1])).length ≤ 61 * (k + 1)) := by
            constructor
            · apply ByteArray.ext
              simp [cdL, codeB]
            · rw [cdL_app, List.length_append, show cdL [pp + 1] = codeL (pp + 1) from by simp [cdL]]
              omega
          have I2 : Hid ((ns ++ [pp + 1]).length = k + 1 ∧ ∀ n ∈ ns ++ [pp + 1], 1 ≤ n ∧ n ≤ 1000000000) := by
            refine ⟨by rw [List.length_append, hI.out.1]; rfl, fun n hn => ?_⟩
            rcases List.mem_append.1 hn with h | h
            · exact hI.out.2 n h
            · rw [List.mem_singleton.1 h]; omega
          have IN : Hid (ints ((ns ++ [pp + 1]).map fun n : Nat => (n : Int)) = ints (ns.map fun n : Nat => (n : Int)) ++ [.int .i64 (1 + (pp : Int))]) := by
            rw [Hid]; simp [ints]; omega
          have t6 : ¬ 9223372036854775807 < (ByteArray.mk (cdL ns).toArray).size + (codeB (pp + 1)).size := by omega
          have A3k := Lib.hid (A3.out _ BY)
          have A4k := Lib.hid (A4.out _ BY)
          have ATKk := Lib.hid (ATK.out _ BY)
          have HCZ := Lib.hid cz
          clear ha hb ba bb hpp A3 A4 cz ncl
          generalize codeB (pp + 1) = cb at *
          generalize ByteArray.mk (cdL ns).toArray = al at *
          go_wp2_with fail
          refine ATKk.out.mono ?_
          rintro e w20 ⟨rfl, rfl⟩
          go_wp2_with fail
          refine A3k.out.mono ?_
          rintro e w20 ⟨rfl, rfl⟩
          go_wp2_with fail
          refine A4k.out.mono ?_
          rintro e w20 ⟨rfl, rfl⟩
          go_wp2_with fail
          refine (NC.out _).mono ?_
          rintro e w20 ⟨rfl, hb20⟩
          have O20 := own_ext hb20 hown
          have B20 := Ext.then_ hbx hb20
          have z20 := B20.size
          clear hown
          go_wp2_with (at_builtin; refine wpList_app intT (by rfl) _ _ (by rfl) w19.heap.size (.slice (some ⟨g, 0, none⟩) k c) k (ints (ns.map fun n : Nat => (n : Int))) (by rfl) (O20.alloc _) w20.heap.size #[.int .i64 (1 + (pp : Int))] (by rfl) (by exact heap_alloc_new w20 _) rfl (by simp [Value.oneCell']) (by omega) (by simp; omega) ?_; intro g3 cap3 w21 hown3 hgrow3 hat3 hlt3)
          have B21 : Below w19.heap.size w19 w21 := (B20.alloc (by omega) _).grown hgrow3 (by simp; omega) (fun z hz => (O20.lt z hz).1)
          have HO : Hid (w21.ownsRow w19.heap.size 2 1 (.slice (some ⟨g3, 0, none⟩) (k + 1) cap3) (k + 1) (ints ((ns ++ [pp + 1]).map fun n : Nat => (n : Int)))) := by rw [Hid, IN.out]; simpa using hown3
          clear hown3 hgrow3 hat3 O20
          go_wp2_with fail
          go_roundw
          case rel => exact ⟨k + 1, ns ++ [pp + 1], g3, cap3, by omega, by go_num, rfl, by rw [J.out.1], I2, J.out.2, HO.out, B21⟩
          case measure => simp [intOf]; omega
        · obtain rfl : k = K := by omega
          have q1 : ¬ (k : Int) < (k : Int) := by omega
          have ATKk := Lib.hid (ATK.out _ BY)
          have cz : (ByteArray.mk (cdL ns).toArray).size = (cdL ns).length := by simp [ByteArray.size]
          have NB := nm_codes (s := ⟨(cdL ns).toArray⟩) (ns := ns) hI.out.2 rfl (by omega)
          have NUM : Hid (∀ V, Calls Tryd.prog 10 #[.string ⟨(cdL ns).toArray⟩] V fun e w' => ∃ A c, e = .returned (.tuple #[.slice A k c, .bool true]) ∧ w'.ownsRow V.heap.size 2 1 (.slice A k c) k (ints (ns.map fun n : Nat => (n : Int))) ∧ Below V.heap.size V w') := fun V => by
            refine (numbersI_any ⟨(cdL ns).toArray⟩ V (by omega)).mono ?_
            rintro e w' ⟨A, c, h1, h2, h3⟩
            rw [NB.1, NB.2, List.length_map, hI.out.1] at h1
            rw [NB.1, List.length_map, hI.out.1] at h2
            exact ⟨A, c, h1, h2, h3⟩
          have HIL := Lib.hid (show (ns.map fun n : Nat => (n : Int)).length = k by rw [List.length_map]; exact hI.out.1)
          have q7 : ((k : Int) != (k : Int)) = false := by simp
          clear ATK cz NB
          generalize ByteArray.mk (cdL ns).toArray = al at *
          generalize (ns.map fun n : Nat => (n : Int)) = zs at *
          go_wp2_with fail
          refine ATKk.out.mono ?_
          rintro e w20 ⟨rfl, rfl⟩
          go_wp2_with fail
          refine (NUM.out _).mono ?_
          rintro e w20 ⟨A20, c20, rfl, ho20, hb20⟩
          have O20 := own_ext hb20 hown
          have BZ := Ext.then_ BY hb20
          have R1 := Lib.hid (Rd.of_own O20)
          have R2 := Lib.hid (Rd.of_own ho20)
          clear hown ho20 O20 NUM ATKk
          go_upto_region 40 with fail
          go_wp2_with fail
          go_loopw [37] (fun iv wx => ∃ q : Nat, q ≤ k ∧ iv = .int .i64 q ∧ Below w20.heap.size w20 wx) (fun iv _ => k - (intOf iv).toNat)
          case atStart => exact ⟨0, Nat.zero_le _, rfl, Ext.refl _⟩
          case round =>
            obtain ⟨q, hq, rfl, hbr⟩ := hrel
            by_cases hlt3 : q < k
            · have hql : q < zs.length := by rw [HIL.out]; exact hlt3
              have hqi : q < (ints zs).length := by simpa [ints] using hql
              obtain ⟨g1', e1', l1', cc1⟩ := R1.out (by omega)
              obtain ⟨g2', e2', l2', cc2⟩ := R2.out (by omega)
              obtain rfl := e2'
              simp only [Option.some.injEq, Addr.mk.injEq, and_true] at e1'
              subst e1'
              have d1 := (hbr.cell (p := ⟨g, q, none⟩) l1').trans (cc1 q hqi)
              have d2 := (hbr.cell (p := ⟨g2', q, none⟩) l2').trans (cc2 q hqi)
              have y1 := Nat.lt_of_lt_of_le l1' hbr.size
              have y2 := Nat.lt_of_lt_of_le l2' hbr.size
              have ev : (ints zs)[q]'hqi = .int .i64 (zs[q]'hql) := by simp [ints]
              rw [ev] at d1 d2
              generalize zs[q]'hql = zq at *
              have i0 : (0 : Int) ≤ (q : Int) := by omega
              have i1 : (q : Int) < (k : Int) := by omega
              have n0 : (zq != zq) = false := by simp
              clear cc1 cc2 ev
              go_upto_region 43 with fail
              refine wp_region_held_quiet (fun U => Below wr.heap.size wr U) (by kernel_rfl) (by kernel_rfl) (Ext.refl _).drew ?_
              have ne : Nonempty (HeldW (fun U => Below wr.heap.size wr U)) := ⟨⟨wr, Ext.refl _⟩⟩
              have v0 : ∀ i : HeldW (fun U => Below wr.heap.size wr U), i.w.cell? ⟨g2', q, none⟩ = _ := fun i => (i.h.cell (p := ⟨g2', q, none⟩) y2).trans d2
              have v1 : ∀ i : HeldW (fun U => Below wr.heap.size wr U), i.w.cell? ⟨g, q, none⟩ = _ := fun i => (i.h.cell (p := ⟨g, q, none⟩) y1).trans d1
              repeat (go_big_quiet_step (fail))
              refine wpQuiet_nil ?_
              intro w22 hw'
              obtain ⟨⟨_, hb22⟩, rfl⟩ := hw'
              clear ne v0 v1
              have HB := Ext.then_ hbr hb22
              go_wp2_with fail
              go_roundw
              case rel => exact ⟨q + 1, by omega, by go_num, HB⟩
              case measure => simp [intOf]; omega
            · obtain rfl : q = k := by omega
              have q8 : ¬ (q : Int) < (q : Int) := by omega
              go_wp2_with fail
              go_ret
              exact ⟨rfl, Ext.then_ BZ hbr⟩
end Go.Proofs.YtogefmkplkddoaaDoor
