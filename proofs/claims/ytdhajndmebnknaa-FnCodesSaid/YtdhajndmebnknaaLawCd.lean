/- What the law of codes asks, said of a picture. Plain. The law FnCodes, walked. -/
import Derived.Test.YtdhajndmebnknaaTopG
import Derived.Test.YtdhajndmebnknaaTopX
import Derived.Test.YtdhajndmebnknaaTrnP
import Derived.Test.YtdhajndmebnknaaEnd
import Derived.Test.YtdhajndmebnknaaRngB
import Derived.Test.YtdhajndmebnknaaB10B
import Derived.Test.YtdhajndmebnknaaHQ
import Derived.Deep.RegionHeld3
import Derived.Deep.RegionLaw
import Derived.Deep.CutRange
import Derived.Deep.DeepCutAuto
namespace Go.Proofs.Ytdhajndmebnknaa
open Go.RowKit

theorem picBits_len (rows : List ByteArray) : (picBits rows).length = picW rows * rows.length := by simp [picBits]
theorem treeB_len {rows : List ByteArray} (h : picOk rows = true) : ((treeB rows).size : Int) = 2 * (1 + (compN true (picBits rows) (picW rows) rows.length : Nat) + holeN true (picBits rows) (picW rows) rows.length) := by
  obtain ⟨s1, s2, s3, s4⟩ := picOk_sizes h
  obtain ⟨T1, t1, n1⟩ := compN_trv true (picBits rows) (W := picW rows) (H := rows.length) s3 (by omega) (by omega)
  obtain ⟨T2, t2, n2⟩ := compN_trv false (invL (padL (picBits rows) (picW rows) rows.length) (picW rows + 2) (rows.length + 2)) (W := picW rows + 2) (H := rows.length + 2) (by omega) (by omega) (by omega)
  have e : okI (invL (padL (picBits rows) (picW rows) rows.length) (picW rows + 2) (rows.length + 2)) (picW rows + 2) (rows.length + 2) = okC (padL (picBits rows) (picW rows) rows.length) (picW rows + 2) (rows.length + 2) false := by
    funext z; exact okI_inv _ _ _ z
  rw [e] at t2
  have l := tree_len (L := picBits rows) (W := picW rows) (H := rows.length) t1 t2
  have z : (treeB rows).size = (treeV (picBits rows) (picW rows) rows.length).1.length := by simp [treeB, ByteArray.size]
  rw [z, l, n1]
  unfold holeN
  rw [show (!true) = false from rfl, n2]
  omega
theorem treeB_brk (rows : List ByteArray) : brk 0 0 (treeB rows).data.toList = some (0, (treeD rows : Int) + 1) := by
  have e : (treeB rows).data.toList = (treeV (picBits rows) (picW rows) rows.length).1 := by simp [treeB]
  rw [e]
  exact tree_brk _ _ _
theorem treeB_max {rows : List ByteArray} (h : picOk rows = true) : (treeB rows).size ≤ 2000 := by
  obtain ⟨s1, s2, s3, s4⟩ := picOk_sizes h
  have l := treeB_len h
  have h1 := compN_le true (picBits rows) (picW rows) rows.length
  have h2 := compN_le (!true) (invL (padL (picBits rows) (picW rows) rows.length) (picW rows + 2) (rows.length + 2)) (picW rows + 2) (rows.length + 2)
  have b1 : picW rows * rows.length ≤ 16 * 16 := Nat.mul_le_mul s4 s2
  have b2 : (picW rows + 2) * (rows.length + 2) ≤ 18 * 18 := Nat.mul_le_mul (by omega) (by omega)
  unfold holeN at l
  omega
theorem hole_bd {rows : List ByteArray} (h : picOk rows = true) : compN true (picBits rows) (picW rows) rows.length ≤ 256 ∧ -1 ≤ holeN true (picBits rows) (picW rows) rows.length ∧ holeN true (picBits rows) (picW rows) rows.length ≤ 400 := by
  obtain ⟨s1, s2, s3, s4⟩ := picOk_sizes h
  have h1 := compN_le true (picBits rows) (picW rows) rows.length
  have h2 := compN_le (!true) (invL (padL (picBits rows) (picW rows) rows.length) (picW rows + 2) (rows.length + 2)) (picW rows + 2) (rows.length + 2)
  have b1 : picW rows * rows.length ≤ 16 * 16 := Nat.mul_le_mul s4 s2
  have b2 : (picW rows + 2) * (rows.length + 2) ≤ 18 * 18 := Nat.mul_le_mul (by omega) (by omega)
  unfold holeN
  omega
/-- A turned picture has the same tree. -/
theorem trn_tree (L : List Bool) (W H k : Nat) : treeV L W H = treeV (trnL k L W H) (trnW k W H) (trnH k W H) := by
  have B : ∀ (V G : Nat) (f : Nat → Bool) (x y : Int), (0 ≤ x ∧ x < V) → (0 ≤ y ∧ y < G) → bit ((List.range (V * G)).map f) V G x y = f (y.toNat * V + x.toNat) := by
    intro V G f x y hx hy
    obtain ⟨a, rfl⟩ := Int.eq_ofNat_of_zero_le hx.1
    obtain ⟨b, rfl⟩ := Int.eq_ofNat_of_zero_le hy.1
    have ha : a < V := by omega
    have hb : b < G := by omega
    rw [bit_in ha hb, List.getD_eq_getElem?_getD, List.getElem?_map, List.getElem?_range (by
      have : (b + 1) * V ≤ G * V := Nat.mul_le_mul_right _ hb
      rw [Nat.add_mul, Nat.mul_comm G] at this
      omega)]
    rfl
  have D : ∀ (V : Nat) (x y : Int), (0 ≤ x ∧ x < V) → 0 ≤ y → (((y.toNat * V + x.toNat) % V : Nat) : Int) = x ∧ (((y.toNat * V + x.toNat) / V : Nat) : Int) = y := by
    intro V x y hx hy
    have hl : x.toNat < V := by omega
    rw [divU hl, modU hl]
    omega
  by_cases k0 : k = 0
  · subst k0
    refine tree_turn0 fun x y hx hy => ?_
    obtain ⟨d1, d2⟩ := D W x y hx hy.1
    show bit (trn0 L W H) W H x y = _
    rw [trn0, B W H _ x y hx hy, d1, d2]
  by_cases k1 : k = 1
  · subst k1
    refine tree_turn1 fun x y hx hy => ?_
    obtain ⟨d1, d2⟩ := D W x y hx hy.1
    show bit (trn1 L W H) W H x y = _
    rw [trn1, B W H _ x y hx hy, d1, d2]
  have e1 : trnW k W H = H := by unfold trnW; rw [if_neg (by omega)]
  have e2 : trnH k W H = W := by unfold trnH; rw [if_neg (by omega)]
  rw [e1, e2]
  by_cases k2 : k = 2
  · subst k2
    refine tree_turn2 fun x y hx hy => ?_
    obtain ⟨d1, d2⟩ := D H x y hx hy.1
    show bit (trn2 L W H) H W x y = _
    rw [trn2, B H W _ x y hx hy, d1, d2]
  · refine tree_turn3 fun x y hx hy => ?_
    obtain ⟨d1, d2⟩ := D H x y hx hy.1
    have e3 : trnL k L W H = trn3 L W H := by unfold trnL; rw [if_neg k0, if_neg k1, if_neg k2]
    rw [e3, trn3, B H W _ x y hx hy, d1, d2]
theorem trn_len (L : List Bool) (W H k : Nat) : (trnL k L W H).length = trnW k W H * trnH k W H := by
  unfold trnL trnW trnH
  by_cases k0 : k = 0
  · subst k0; simp [trn0]
  by_cases k1 : k = 1
  · subst k1; simp [trn1]
  have hk : ¬ k < 2 := by omega
  rw [if_neg k0, if_neg k1, if_neg hk, if_neg hk]
  split
  · simp [trn2]
  · simp [trn3]
/-- The rows of a turned picture. -/
def trnR (rows : List ByteArray) (k : Nat) : List ByteArray := rowsTo (trnL k (picBits rows) (picW rows) rows.length) (trnW k (picW rows) rows.length) (trnH k (picW rows) rows.length)
theorem trnR_len {rows : List ByteArray} (h : picOk rows = true) (k : Nat) : (trnR rows k).length ≤ 16 := by
  obtain ⟨s1, s2, s3, s4⟩ := picOk_sizes h
  rw [trnR, rowsTo_length]; unfold trnH; split <;> omega
theorem trn_same {rows : List ByteArray} (h : picOk rows = true) (k : Nat) : sameT rows (trnR rows k) = true := by
  unfold trnR
  obtain ⟨s1, s2, s3, s4⟩ := picOk_sizes h
  have w0 : 0 < trnW k (picW rows) rows.length ∧ trnW k (picW rows) rows.length ≤ 16 := by unfold trnW; split <;> omega
  have h0 : 0 < trnH k (picW rows) rows.length ∧ trnH k (picW rows) rows.length ≤ 16 := by unfold trnH; split <;> omega
  have hok := told_ok (L := trnL k (picBits rows) (picW rows) rows.length) w0.1 w0.2 h0.1 h0.2
  have hb := told_bits (L := trnL k (picBits rows) (picW rows) rows.length) h0.1 (trn_len _ _ _ _)
  have hw := told_w (L := trnL k (picBits rows) (picW rows) rows.length) (W := trnW k (picW rows) rows.length) h0.1
  have e : treeB (rowsTo (trnL k (picBits rows) (picW rows) rows.length) (trnW k (picW rows) rows.length) (trnH k (picW rows) rows.length)) = treeB rows := by
    unfold treeB
    rw [hb, hw, rowsTo_length, ← trn_tree]
  rw [sameT, h, hok, e]
  simp
theorem drop_atC (s : ByteArray) (k : Nat) (hk : k < s.size) : s.data.toList.drop k = s[k] :: s.data.toList.drop (k + 1) := by
  have e := List.drop_eq_getElem_cons (l := s.data.toList) (i := k) (by simpa using hk)
  rw [e]
  congr 1
/-- A step of the reading of brackets. -/
theorem brk_step {k m : Int} {b : UInt8} {t : Txt} {r : Int × Int} (h : brk k m (b :: t) = some r) : 0 ≤ (if b = 40 then k + 1 else k - 1) ∧ brk (if b = 40 then k + 1 else k - 1) (max m (if b = 40 then k + 1 else k - 1)) t = some r := by
  rw [brk] at h
  by_cases h0 : (if b = 40 then k + 1 else k - 1) < 0
  · rw [if_pos h0] at h; cases h
  · rw [if_neg h0] at h
    exact ⟨by omega, h⟩
/-- Black pixels around, one by one. -/
def coT (L : List Bool) (W H : Nat) (x y : Int) (k : Nat) : Nat := ((ar8 x y).take (if k ≤ 4 then k else k - 1)).countP fun q => bit L W H q.1 q.2
theorem coT_step (L : List Bool) (W H : Nat) (x y : Int) (k : Nat) (hk : k < 9) (h4 : k ≠ 4) : coT L W H x y (k + 1) = coT L W H x y k + if bit L W H (x + ((k % 3 : Nat) : Int) - 1) (y + ((k / 3 : Nat) : Int) - 1) then 1 else 0 := by
  have hh : k = 0 ∨ k = 1 ∨ k = 2 ∨ k = 3 ∨ k = 5 ∨ k = 6 ∨ k = 7 ∨ k = 8 := by omega
  have st := co_step L W H (ar8 x y)
  have h8 : (ar8 x y).length = 8 := rfl
  have a0 : x + ((0 : Nat) : Int) - 1 = x - 1 := by omega
  have a1 : x + ((1 : Nat) : Int) - 1 = x := by omega
  have a2 : x + ((2 : Nat) : Int) - 1 = x + 1 := by omega
  have b0 : y + ((0 : Nat) : Int) - 1 = y - 1 := by omega
  have b1 : y + ((1 : Nat) : Int) - 1 = y := by omega
  have b2 : y + ((2 : Nat) : Int) - 1 = y + 1 := by omega
  rcases hh with rfl | rfl | rfl | rfl | rfl | rfl | rfl | rfl
  · rw [show (0 : Nat) % 3 = 0 from rfl, show (0 : Nat) / 3 = 0 from rfl, a0, b0]; exact st 0 (by rw [h8]; decide)
  · rw [show (1 : Nat) % 3 = 1 from rfl, show (1 : Nat) / 3 = 0 from rfl, a1, b0]; exact st 1 (by rw [h8]; decide)
  · rw [show (2 : Nat) % 3 = 2 from rfl, show (2 : Nat) / 3 = 0 from rfl, a2, b0]; exact st 2 (by rw [h8]; decide)
  · rw [show (3 : Nat) % 3 = 0 from rfl, show (3 : Nat) / 3 = 1 from rfl, a0, b1]; exact st 3 (by rw [h8]; decide)
  · rw [show (5 : Nat) % 3 = 2 from rfl, show (5 : Nat) / 3 = 1 from rfl, a2, b1]; exact st 4 (by rw [h8]; decide)
  · rw [show (6 : Nat) % 3 = 0 from rfl, show (6 : Nat) / 3 = 2 from rfl, a0, b2]; exact st 5 (by rw [h8]; decide)
  · rw [show (7 : Nat) % 3 = 1 from rfl, show (7 : Nat) / 3 = 2 from rfl, a1, b2]; exact st 6 (by rw [h8]; decide)
  · rw [show (8 : Nat) % 3 = 2 from rfl, show (8 : Nat) / 3 = 2 from rfl, a2, b2]; exact st 7 (by rw [h8]; decide)
theorem coT_four (L : List Bool) (W H : Nat) (x y : Int) : coT L W H x y 5 = coT L W H x y 4 := rfl
theorem coT_zero (L : List Bool) (W H : Nat) (x y : Int) : coT L W H x y 0 = 0 := rfl
theorem coT_all (L : List Bool) (W H : Nat) (x y : Int) : coT L W H x y 9 = coN L W H (x, y) := rfl
theorem coT_le (L : List Bool) (W H : Nat) (x y : Int) (k : Nat) : coT L W H x y k ≤ 8 := Nat.le_trans List.countP_le_length (by rw [List.length_take]; exact Nat.min_le_right _ _)
/-- An end is black and has one black pixel around it. -/
theorem ends_of {L : List Bool} {W H : Nat} (hW : 0 < W) {p : Int × Int} (hp : p ∈ endsV L W H) : coN L W H p = 1 ∧ bit L W H p.1 p.2 = true ∧ (0 ≤ p.1 ∧ p.1 < W) ∧ 0 ≤ p.2 ∧ p.2 < H := by
  obtain ⟨h1, h2⟩ := List.mem_filter.1 hp
  have h3 := okI_iff.2 ((spB_mem hW).1 h1)
  obtain ⟨x, y, rfl, hx, hy, _⟩ := (spB_mem hW).1 h1
  refine ⟨?_, h3, by simp only; omega, by simp only; omega⟩
  simp at h2
  omega
end Go.Proofs.Ytdhajndmebnknaa

namespace Go.Proofs.Ytdhajndmebnknaa
open Go.RowKit

set_option maxRecDepth 100000 in
set_option maxHeartbeats 4000000 in
theorem walkCodes (w : World) (A : Option Addr) (n c : Nat) (l : List Int) (hl : BytesAt w A n l) (hn : n ≤ maxLen) (B : Option Addr) (m d : Nat) (l2 : List Int) (hl2 : BytesAt w B m l2) (hm : m ≤ maxLen) :
    Calls Try.prog 6 #[.slice A n c, .slice B m d] w fun e w' => e = .returned (.bool true) ∧ Below w.heap.size w w' := by
  have LO := Lib.hid (b10Long_any A B n c m d hn hm w)
  cases hlong : (decide (1048576 < n) || decide (1048576 < m))
  case true =>
    rw [hlong] at LO
    clear hl hl2 hn hm hlong
    go_enter Try.func6, Try.ntmps6
    go_wp2_with (go_at_call 16; refine LO.out.mono ?_; rintro e w' ⟨rfl, rfl⟩)
    go_ret
    exact ⟨rfl, Ext.refl _⟩
  rw [hlong] at LO
  have RG := Lib.hid (b10Rings_any A n c l w hl hn)
  have AT := Lib.hid (fun V (hb : Below w.heap.size w V) => (show Calls Try.prog 21 #[.slice B m d, .int .i64 0, .int .i64 4] V _ from b10At_any B m d l2 0 4 V (hl2.ext hb) (by decide) (by omega) (by omega) hm))
  clear hl hn hl2 hm hlong
  go_enter Try.func6, Try.ntmps6
  go_wp2_with (go_at_call 16; refine LO.out.mono ?_; rintro e w' ⟨rfl, rfl⟩)
  refine RG.out.mono ?_
  rintro e w1 ⟨A1, c1, rows, rfl, own1, hok, h12, hw12, hb1⟩
  obtain ⟨s1, s2, s3, s4⟩ := picOk_sizes hok
  have RD := Rd.of_own own1
  have TC := Lib.hid (fun V (hb : Below w1.heap.size w1 V) => treeCode_anyT A1 c1 rows V (RD.ext hb) (by omega))
  have DP := Lib.hid (fun V (hb : Below w1.heap.size w1 V) => depthOf_anyT A1 c1 rows V (RD.ext hb) (by omega))
  have CP := Lib.hid (fun V (hb : Below w1.heap.size w1 V) => componentsOf_any A1 c1 rows true V (RD.ext hb) hok)
  have CH := Lib.hid (fun V (hb : Below w1.heap.size w1 V) => countHoles_any A1 c1 rows true V (RD.ext hb) hok)
  have TN : Hid (∀ k : Nat, k < 4 → ∀ V, Below w1.heap.size w1 V → Calls Try.prog 20 #[.agg #[.slice A1 rows.length c1], .int .i64 k] V (PicRes V (trnR rows k) true)) := fun k hk V hb => turnPicture_any A1 c1 rows k hk V (RD.ext hb) hok
  have EN := Lib.hid (fun V (hb : Below w1.heap.size w1 V) => endsOf_any A1 c1 rows V (RD.ext hb) hok)
  have BK := Lib.hid (fun x y V (hb : Below w1.heap.size w1 V) => b10Black_any A1 c1 rows x y V (RD.ext hb) hok)
  have e1 : codeT rows = treeB rows := by simp [codeT, hok]
  have e2 : deepT rows = (treeD rows : Int) := by simp [deepT, hok]
  rw [e1, hok] at TC
  rw [e2, hok] at DP
  clear e1 e2
  have ST : Hid (∀ k V A2 c2, Below w1.heap.size w1 V → Rd V A2 (strs (trnR rows k)) →
      Calls Try.prog 15 #[.agg #[.slice A1 rows.length c1], .agg #[.slice A2 (trnR rows k).length c2]] V fun e w' => e = .returned (.bool true) ∧ Below V.heap.size V w') := fun k V A2 c2 hb h2 => by
    have := sameTop_any A1 c1 rows A2 c2 _ V (RD.ext hb) (by omega) h2 (by have := trnR_len hok k; omega)
    rw [trn_same hok] at this
    exact this
  have LEN := Lib.hid (treeB_len hok)
  have BRK := Lib.hid (treeB_brk rows)
  have MAX := treeB_max hok
  have HB := hole_bd hok
  have ENS := Lib.hid (fun p (hp : p ∈ endsV (picBits rows) (picW rows) rows.length) => ends_of s3 hp)
  have SE16 : Hid (picW rows ≤ 16 ∧ rows.length ≤ 16) := ⟨s4, s2⟩
  have B1 := Ext.more hb1 (.cells #[.slice A1 rows.length c1] 28)
  have B1' := Ext.more (Ext.refl w1) (.cells #[.slice A1 rows.length c1] 28)
  have T1 := Blk.made w1 28 #[.slice A1 rows.length c1]
  have KC : Hid (∀ V, Blk V w1.heap.size 28 #[.slice A1 rows.length c1] → V.cell? ⟨w1.heap.size, 0, none⟩ = some (.slice A1 rows.length c1)) := fun V hT => by simpa using hT.cell 0
  have k1 := KC.out _ T1
  have zw1 := hb1.size
  clear RG LO own1 hb1 RD hok h12 hw12 s1 s2 s3 s4
  generalize trnR rows = RT at *
  generalize treeB rows = tb at *
  generalize treeD rows = td at *
  generalize compN true (picBits rows) (picW rows) rows.length = cn at *
  generalize holeN true (picBits rows) (picW rows) rows.length = hnn at *
  go_wp2_with fail
  refine (TC.out _ B1').mono ?_
  rintro e w2 ⟨rfl, hb2⟩
  have B2 := Ext.then_ B1 hb2
  have B2' := Ext.then_ B1' hb2
  have T2 := T1.under hb2 T1.lt
  clear T1 B1 B1' hb2 k1 TC
  have k1 := KC.out _ T2
  go_wp2_with fail
  refine (DP.out _ B2').mono ?_
  rintro e w3 ⟨rfl, hb3⟩
  have B3 := Ext.then_ B2 hb3
  have B3' := Ext.then_ B2' hb3
  have T3 := T2.under hb3 T2.lt
  clear T2 B2 B2' hb3 k1 DP
  have k1 := KC.out _ T3
  go_wp2_with fail
  refine (CP.out _ B3').mono ?_
  rintro e w4 ⟨v4, rfl, hb4⟩
  have B4 := Ext.then_ B3 hb4
  have B4' := Ext.then_ B3' hb4
  have T4 := T3.under hb4 T3.lt
  clear T3 B3 B3' hb4 k1 CP
  have k1 := KC.out _ T4
  go_wp2_with fail
  refine (CH.out _ B4').mono ?_
  rintro e w5 ⟨rfl, hb5⟩
  have B5 := Ext.then_ B4 hb5
  have B5' := Ext.then_ B4' hb5
  have T5 := T4.under hb5 T4.lt
  clear T4 B4 B4' hb5 k1 CH
  have k1 := KC.out _ T5
  have t5 := T5.lt
  go_upto_region 8 with fail
  go_cut [15, 16] (fun s15 s16 wx => ∃ (b k : Nat) (A2 : Option Addr) (c2 : Nat), s15 = .pointer (some ⟨b, 0, none⟩) ∧ s16 = .bool true ∧ k < 4 ∧ Blk wx b 28 #[.slice A2 (RT k).length c2] ∧ Rd wx A2 (strs (RT k)) ∧ Below w5.heap.size w5 wx)
  case first =>
    have SS := Lib.hid (fun V (hb : Below w5.heap.size w5 V) => (show Below w5.heap.size w5 V ∧ V.cell? ⟨w1.heap.size, 0, none⟩ = some (.slice A1 rows.length c1) from ⟨hb, (hb.cell (p := ⟨w1.heap.size, 0, none⟩) t5).trans k1⟩))
    go_region_held3 (fun V => Below w5.heap.size w5 V ∧ V.cell? ⟨w1.heap.size, 0, none⟩ = some (.slice A1 rows.length c1))
      (first
        | exact SS.out _ (Ext.draw (Ext.refl _))
        | exact SS.out _ (Ext.more (Ext.draw (Ext.refl _)) _)
        | exact SS.out _ (Ext.draw (Ext.more (Ext.refl _) _))
        | exact SS.out _ h57
        | exact SS.out _ (Ext.more h57 _)
        | exact SS.out _ (h57.setCell (p := ⟨w5.heap.size, 0, none⟩) (by show w5.heap.size ≤ w5.heap.size; omega) _)
        | go_keep)
      (first
        | (go_at_call 21; refine (AT.out _ (by first | exact Ext.draw B5 | exact Ext.more (Ext.draw B5) _ | exact Ext.draw (Ext.more B5 _))).mono ?_; rintro e w6 ⟨⟨k, hk, rfl⟩, rfl⟩)
        | (go_at_call 20; first
            | (refine (TN.out k hk w5.drew (Ext.draw B5')).mono ?_; rintro e w7 ⟨A2, c2, rfl, own7, hb'⟩; have h57 : Below w5.heap.size w5 w7 := Ext.undraw hb')
            | (refine (TN.out k hk _ (by first | exact Ext.more (Ext.draw B5') _ | exact Ext.draw (Ext.more B5' _))).mono ?_; rintro e w7 ⟨A2, c2, rfl, own7, hb'⟩; have h57 : Below w5.heap.size w5 w7 := (by first | exact Ext.then_ (Ext.more (Ext.draw (Ext.refl _)) _) hb' | exact Ext.then_ (Ext.draw (Ext.more (Ext.refl _) _)) hb'); have T12 : Blk w7 w5.heap.size 28 #[.slice none 0 0] := (by first | exact (Blk.made w5 _ _).ofDraw.under hb' (by simp) | exact (Blk.made w5.drew _ _).under hb' (by simp) | exact (Blk.made w5 _ _).under hb' (by simp)); have b0 := T12.cell 0; have f0 := T12.free 0; simp at b0)))
    all_goals
      go_wp2_with fail
      go_meet
      first
        | exact ⟨_, k, A2, c2, rfl, rfl, hk, Blk.made w7 _ _, (Rd.of_own own7).ext (Ext.more (Ext.refl _) _), Ext.more h57 _⟩
        | (have hT := T12.store 0 (.slice A2 (RT k).length c2)
           have hO := ownsRow_setCell_below own7 (a := ⟨w5.heap.size, 0, none⟩) (by show w5.heap.size < _; simp) (.slice A2 (RT k).length c2)
           exact ⟨_, k, A2, c2, rfl, rfl, hk, by simpa using hT, Rd.of_own hO, h57.setCell (p := ⟨w5.heap.size, 0, none⟩) (Nat.le_refl _) _⟩)
  case rest =>
    obtain ⟨bq, k, A2, c2, rfl, rfl, hk, TQ, RQ, hb8⟩ := hcut
    obtain ⟨w8, rfl⟩ : ∃ w8 : World, w8 = wc := ⟨_, rfl⟩
    have B8 := Ext.then_ B5 hb8
    have B8' := Ext.then_ B5' hb8
    have T8 := T5.under hb8 t5
    clear T5 B5 B5' hb8 k1 TN AT t5
    have k1 := KC.out _ T8
    go_wp2_with fail
    refine (EN.out _ B8').mono ?_
    rintro e w9 ⟨ge, me, ce, rfl, hme, hm256, SE, hb9⟩
    have B9 := Ext.then_ B8 hb9
    have B9' := Ext.then_ B8' hb9
    have T9 := T8.under hb9 T8.lt
    have TQ9 := TQ.under hb9 TQ.lt
    have RQ9 := RQ.ext hb9
    clear T8 B8 B8' TQ RQ hb9 k1 EN
    have k1 := KC.out _ T9
    have kq := TQ9.cell 0
    simp at kq
    have ST9 := Lib.hid (ST.out k w9 A2 c2 B9' RQ9)
    have len : ((tb.size : Int) != 2 * (1 + (cn : Int) + hnn)) = false := by rw [LEN.out]; simp
    clear TQ9 RQ9 ST
    go_wp2_with fail
    refine ST9.out.mono ?_
    rintro e w10 ⟨rfl, hb10⟩
    have B10 := Ext.then_ B9 hb10
    have B10' := Ext.then_ B9' hb10
    have T10 := T9.under hb10 T9.lt
    have S10 := SE.ext hb10
    clear B9 B9' T9 SE hb10 k1 kq ST9 len LEN
    go_wp2_with fail
    go_loopw [19, 20, 21] (fun o mo i wr => ∃ (k m : Int) (j : Nat), j ≤ tb.size ∧ o = .int .i64 k ∧ mo = .int .i64 m ∧ i = .int .i64 j ∧ 0 ≤ k ∧ k ≤ j ∧ 0 ≤ m ∧ m ≤ j ∧ Hid (brk k m (tb.data.toList.drop j) = some (0, (td : Int) + 1)) ∧ wr = w10) (fun _ _ i _ => tb.size - (intOf i).toNat)
    case atStart => exact ⟨0, 0, 0, Nat.zero_le _, rfl, rfl, rfl, by omega, by omega, by omega, by omega, BRK, rfl⟩
    case round =>
      obtain ⟨k, m, j, hj, rfl, rfl, rfl, hk0, hkj, hm0, hmj, HB, hwr⟩ := hrel
      obtain rfl : w10 = wr := hwr.symm
      clear hwr
      by_cases hlt : j < tb.size
      · have HB2 := HB.out
        rw [drop_atC tb j hlt] at HB2
        obtain ⟨q1, q2⟩ := brk_step HB2
        have HQ := Lib.hid q2
        clear HB2 q2 HB BRK
        have i0 : (0 : Int) ≤ (j : Int) := by omega
        have i1 : (j : Int) < (tb.size : Int) := by omega
        by_cases hb : tb[j] = 40
        · have hv : (((tb[j].toNat : Nat) : Int) == 40) = true := by rw [hb]; rfl
          have e4 : (if tb[j] = 40 then k + 1 else k - 1) = k + 1 := if_pos hb
          have HQ2 : Hid (brk (k + 1) (max m (k + 1)) (tb.data.toList.drop (j + 1)) = some (0, (td : Int) + 1)) := by rw [Hid, ← HQ.out, e4]
          have ik : ¬ (k + 1 < 0) := by omega
          clear HQ q1 e4 hb
          go_wp2_with fail
          exact ⟨⟨k + 1, max m (k + 1), j + 1, by omega, rfl, rfl, by go_num, by omega, by omega, by omega, by omega, HQ2.out, trivial⟩, by simp [intOf]; omega⟩
        · have hv : (((tb[j].toNat : Nat) : Int) == 40) = false := by
            rw [beq_eq_false_iff_ne]
            intro h
            apply hb
            apply UInt8.toNat_inj.1
            show tb[j].toNat = 40
            omega
          have e4 : (if tb[j] = 40 then k + 1 else k - 1) = k - 1 := if_neg hb
          rw [e4] at q1
          have HQ2 : Hid (brk (k - 1) (max m (k - 1)) (tb.data.toList.drop (j + 1)) = some (0, (td : Int) + 1)) := by rw [Hid, ← HQ.out, e4]
          have ik : ¬ (k - 1 < 0) := by omega
          clear HQ e4 hb
          go_wp2_with fail
          exact ⟨⟨k - 1, max m (k - 1), j + 1, by omega, rfl, rfl, by go_num, by omega, by omega, by omega, by omega, HQ2.out, trivial⟩, by simp [intOf]; omega⟩
      · obtain rfl : j = tb.size := by omega
        have hkm := HB.out
        rw [List.drop_eq_nil_of_le (by simp), brk] at hkm
        simp only [Option.some.injEq, Prod.mk.injEq] at hkm
        obtain ⟨rfl, rfl⟩ := hkm
        have k1 := KC.out _ T10
        have p1 := T10.lt
        clear HB BRK
        go_wp2_with fail
        go_loopw [22] (fun i wx => ∃ j : Nat, j ≤ me ∧ i = .int .i64 j ∧ Below w10.heap.size w10 wx) (fun i _ => me - (intOf i).toNat)
        case atStart => exact ⟨0, Nat.zero_le _, rfl, Ext.refl _⟩
        case round =>
          obtain ⟨j, hj, rfl, hbj⟩ := hrel
          by_cases hlt : j < me
          · have i0 : (0 : Int) ≤ (j : Int) := by omega
            have i1 : (j : Int) < (me : Int) := by omega
            have hje : j < (endsV (picBits rows) (picW rows) rows.length).length := by rw [hme]; exact hlt
            obtain ⟨f1, f2, f3, f4⟩ := ENS.out _ (List.getElem_mem hje)
            have SJ := S10.ext hbj
            obtain ⟨c0, c1'⟩ := SJ.2 j hje
            have sw := SE16.out
            obtain ⟨x, hx⟩ : ∃ x, ((endsV (picBits rows) (picW rows) rows.length)[j]).1 = x := ⟨_, rfl⟩
            obtain ⟨y, hy⟩ : ∃ y, ((endsV (picBits rows) (picW rows) rows.length)[j]).2 = y := ⟨_, rfl⟩
            have hxy : (endsV (picBits rows) (picW rows) rows.length)[j] = (x, y) := Prod.ext hx hy
            rw [hxy] at f1 f2 f3 f4 c0 c1'
            simp only at f2 f3 f4 c0 c1'
            have HF := Lib.hid (And.intro f1 f2)
            have hx16 : 0 ≤ x ∧ x < 16 := by omega
            have hy16 : 0 ≤ y ∧ y < 16 := by omega
            have HXY := Lib.hid hxy
            clear f1 f2 f3 f4 hx hy hxy SJ c0 c1' sw
            go_wp2_with fail
            go_loopw [23, 24] (fun cc kk wx => ∃ k : Nat, k ≤ 9 ∧ kk = .int .i64 k ∧ cc = .int .i64 (coT (picBits rows) (picW rows) rows.length x y k : Nat) ∧ Below w10.heap.size w10 wx) (fun _ kk _ => 9 - (intOf kk).toNat)
            case atStart => exact ⟨0, Nat.zero_le _, rfl, rfl, hbj⟩
            case round =>
              obtain ⟨k, hk9, rfl, rfl, hbk⟩ := hrel
              have SJ := S10.ext hbk
              obtain ⟨c0, c1'⟩ := SJ.2 j hje
              rw [HXY.out] at c0 c1'
              simp only at c0 c1'
              have kp := (hbk.cell (p := ⟨w1.heap.size, 0, none⟩) p1).trans k1
              have cle := coT_le (picBits rows) (picW rows) rows.length x y k
              by_cases hl9 : k < 9
              · have j0 : (0 : Int) ≤ (k : Int) := by omega
                have j1 : (k : Int) < 9 := by omega
                have gb : ge < wr.heap.size := SJ.1
                have pb : w1.heap.size < wr.heap.size := by have := hbk.size; omega
                by_cases h4 : k = 4
                · subst h4
                  have kn : (((4 : Nat) : Int) != 4) = false := rfl
                  have R := Lib.hid hbk
                  clear SJ hbk
                  go_wp2_with fail
                  refine wp_region_held_quiet (fun U => Below wr.heap.size wr U) (by kernel_rfl) (by kernel_rfl) (Ext.refl _).drew ?_
                  have ne : Nonempty (HeldW (fun U => Below wr.heap.size wr U)) := ⟨⟨wr, Ext.refl _⟩⟩
                  have v0 : ∀ i : HeldW (fun U => Below wr.heap.size wr U), i.w.cell? ⟨w1.heap.size, 0, none⟩ = _ := fun i => (i.h.cell (p := ⟨w1.heap.size, 0, none⟩) pb).trans kp
                  have v1 : ∀ i : HeldW (fun U => Below wr.heap.size wr U), i.w.cell? ⟨ge, j * 2, none⟩ = _ := fun i => (i.h.cell (p := ⟨ge, j * 2, none⟩) gb).trans c0
                  have v2 : ∀ i : HeldW (fun U => Below wr.heap.size wr U), i.w.cell? ⟨ge, j * 2 + 1, none⟩ = _ := fun i => (i.h.cell (p := ⟨ge, j * 2 + 1, none⟩) gb).trans c1'
                  repeat (go_big_quiet_step (fail))
                  refine wpQuiet_nil ?_
                  intro w2 hw'
                  obtain ⟨⟨_, hb2⟩, rfl⟩ := hw'
                  clear ne v0 v1 v2
                  go_wp2_with fail
                  exact ⟨⟨5, by omega, rfl, by rw [coT_four], Ext.then_ R.out hb2⟩, by simp [intOf]⟩
                · have kn : ((k : Int) != 4) = true := by simp; omega
                  have CS := Lib.hid (coT_step (picBits rows) (picW rows) rows.length x y k hl9 h4)
                  have BB : Hid (∀ V, Below wr.heap.size wr V → Calls Try.prog 23 #[.agg #[.slice A1 rows.length c1], .int .i64 (x + ((k % 3 : Nat) : Int) - 1), .int .i64 (y + ((k / 3 : Nat) : Int) - 1)] V fun e w' => e = .returned (.bool (bit (picBits rows) (picW rows) rows.length (x + ((k % 3 : Nat) : Int) - 1) (y + ((k / 3 : Nat) : Int) - 1))) ∧ Below V.heap.size V w') := fun V hb => BK.out _ _ V (B10'.trans ((hbk.trans (hb.mono hbk.size)).mono B10'.size))
                  have e3 : ((k % 3 : Nat) : Int) = (k : Int) % 3 := by omega
                  have e4 : ((k / 3 : Nat) : Int) = (k : Int) / 3 := by omega
                  rw [e3, e4] at BB CS
                  clear e3 e4
                  clear SJ
                  go_wp2_with fail
                  refine wp_region_held_quiet (fun U => Below wr.heap.size wr U) (by kernel_rfl) (by kernel_rfl) (Ext.refl _).drew ?_
                  have ne : Nonempty (HeldW (fun U => Below wr.heap.size wr U)) := ⟨⟨wr, Ext.refl _⟩⟩
                  have v0 : ∀ i : HeldW (fun U => Below wr.heap.size wr U), i.w.cell? ⟨w1.heap.size, 0, none⟩ = _ := fun i => (i.h.cell (p := ⟨w1.heap.size, 0, none⟩) pb).trans kp
                  have v1 : ∀ i : HeldW (fun U => Below wr.heap.size wr U), i.w.cell? ⟨ge, j * 2, none⟩ = _ := fun i => (i.h.cell (p := ⟨ge, j * 2, none⟩) gb).trans c0
                  have v2 : ∀ i : HeldW (fun U => Below wr.heap.size wr U), i.w.cell? ⟨ge, j * 2 + 1, none⟩ = _ := fun i => (i.h.cell (p := ⟨ge, j * 2 + 1, none⟩) gb).trans c1'
                  generalize bit (picBits rows) (picW rows) rows.length (x + (k : Int) % 3 - 1) (y + (k : Int) / 3 - 1) = bb at *
                  repeat (go_big_quiet_step ((go_at_call 23; exact Calls.above_of _ (BB.out _ (‹HeldW (fun U => Below wr.heap.size wr U)›).h))))
                  refine wpQuiet_nil ?_
                  intro _ hw'
                  obtain ⟨⟨w2, hb2⟩, rfl⟩ := hw'
                  have hb3 := Lib.hid (Ext.then_ hbk hb2)
                  clear ne v0 v1 v2 BB hb2
                  cases bb
                  · go_wp2_with fail
                    exact ⟨⟨k + 1, by omega, by go_num, by rw [CS.out]; simp, hb3.out⟩, by simp [intOf]; omega⟩
                  · have mk : IntKind.i64.wrap (((coT (picBits rows) (picW rows) rows.length x y k : Nat) : Int) + 1) = ((coT (picBits rows) (picW rows) rows.length x y k : Nat) : Int) + 1 := IntWalk.i64_in _ (by omega)
                    go_wp2_with fail
                    exact ⟨⟨k + 1, by omega, by go_num, by rw [CS.out]; simp, hb3.out⟩, by simp [intOf]; omega⟩
              · obtain rfl : k = 9 := by omega
                have gb : ge < wr.heap.size := SJ.1
                have pb : w1.heap.size < wr.heap.size := by have := hbk.size; omega
                have c9 : coT (picBits rows) (picW rows) rows.length x y 9 = 1 := by rw [coT_all]; exact HF.out.1
                rw [c9]
                have BB : Hid (∀ V, Below wr.heap.size wr V → Calls Try.prog 23 #[.agg #[.slice A1 rows.length c1], .int .i64 x, .int .i64 y] V fun e w' => e = .returned (.bool true) ∧ Below V.heap.size V w') := fun V hb => by
                  have := BK.out x y V (B10'.trans ((hbk.trans (hb.mono hbk.size)).mono B10'.size))
                  rw [HF.out.2] at this
                  exact this
                have kn : (((1 : Nat) : Int) != 1) = false := rfl
                clear SJ c9 cle
                go_wp2_with fail
                refine wp_region_held_quiet (fun U => Below wr.heap.size wr U) (by kernel_rfl) (by kernel_rfl) (Ext.refl _).drew ?_
                have ne : Nonempty (HeldW (fun U => Below wr.heap.size wr U)) := ⟨⟨wr, Ext.refl _⟩⟩
                have v0 : ∀ i : HeldW (fun U => Below wr.heap.size wr U), i.w.cell? ⟨w1.heap.size, 0, none⟩ = _ := fun i => (i.h.cell (p := ⟨w1.heap.size, 0, none⟩) pb).trans kp
                have v1 : ∀ i : HeldW (fun U => Below wr.heap.size wr U), i.w.cell? ⟨ge, j * 2, none⟩ = _ := fun i => (i.h.cell (p := ⟨ge, j * 2, none⟩) gb).trans c0
                have v2 : ∀ i : HeldW (fun U => Below wr.heap.size wr U), i.w.cell? ⟨ge, j * 2 + 1, none⟩ = _ := fun i => (i.h.cell (p := ⟨ge, j * 2 + 1, none⟩) gb).trans c1'
                repeat (go_big_quiet_step ((go_at_call 23; exact Calls.above_of _ (BB.out _ (‹HeldW (fun U => Below wr.heap.size wr U)›).h))))
                refine wpQuiet_nil ?_
                intro _ hw'
                obtain ⟨⟨w2, hb2⟩, rfl⟩ := hw'
                have hb3 := Lib.hid (Ext.then_ hbk hb2)
                clear ne v0 v1 v2 BB hb2
                go_wp2_with fail
                exact ⟨⟨j + 1, by omega, by go_num, hb3.out⟩, by simp [intOf]; omega⟩
          · obtain rfl : j = me := by omega
            have R := Lib.hid (Ext.then_ B10 hbj)
            go_wp2_with fail
            go_ret
            exact ⟨rfl, R.out⟩
end Go.Proofs.Ytdhajndmebnknaa
