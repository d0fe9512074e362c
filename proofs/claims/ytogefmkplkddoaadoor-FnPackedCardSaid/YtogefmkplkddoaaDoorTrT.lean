/- Trees of squares: the program's texts of pictures. -/
import Derived.Test.YtogefmkplkddoaaDoorTrS
import Derived.Test.YtogefmkplkddoaaDoorImgOf
namespace Go.Proofs.YtogefmkplkddoaaDoor
open Go.RowKit

/-- The texts of the first quarters, one after another. -/
def catT (tx : Nat → List UInt8) : Nat → List UInt8
  | 0 => []
  | k + 1 => catT tx k ++ tx k
def fsT (tx : Nat → List UInt8) : Nat → List UInt8
  | 0 => []
  | _ + 1 => tx 0
def smT (tx : Nat → List UInt8) : Nat → Bool
  | 0 => true
  | k + 1 => smT tx k && (tx k == tx 0 && (tx k).length == 1)
/-- The texts of the quarters of a square. -/
noncomputable def tx4 (B : Int → Int → Bool) (n x y k : Nat) : List UInt8 := (qtf n (sqF B (qX x (2 ^ n) k) (qY y (2 ^ n) k))).txt
theorem txt_pos (T : QT) : 0 < T.txt.length := by cases T <;> simp [QT.txt]
theorem leaf_of {S T : QT} (h : S.txt = T.txt) (h1 : S.txt.length = 1) : ∃ b, S = .leaf b ∧ T = .leaf b := by
  cases S with
  | leaf b =>
    cases T with
    | leaf c =>
      refine ⟨b, rfl, ?_⟩
      cases b <;> cases c <;> first | rfl | exact absurd h (by decide)
    | node => exact absurd (congrArg List.length h) (by simp [QT.txt])
  | node => exact absurd h1 (by simp [QT.txt])
theorem tx4_yes {B : Int → Int → Bool} {n x y : Nat} (h : smT (tx4 B n x y) 4 = true) : (qtf (n + 1) (sqF B x y)).txt = tx4 B n x y 0 := by
  by_cases hs : same (n + 1) (sqF B x y)
  · have hp : 0 < 2 ^ n := Nat.pow_pos (by decide)
    have e2 : 2 ^ (n + 1) = 2 ^ n + 2 ^ n := by rw [Nat.pow_succ]; omega
    have h0 : same n (sqF B x y) := fun i j hi hj => hs i j (by omega) (by omega)
    rw [qtf_same hs, tx4]
    have : qX x (2 ^ n) 0 = x ∧ qY y (2 ^ n) 0 = y := by simp [qX, qY]
    rw [this.1, this.2, qtf_same h0]
  · exfalso
    have e := qtf_node hs
    have hn := qtf_nrm (n + 1) (sqF B x y)
    rw [sqF_right, sqF_down, sqF_both] at e
    rw [e] at hn
    simp only [smT, Bool.true_and, Bool.and_eq_true, beq_iff_eq] at h
    have q0 : tx4 B n x y 0 = (qtf n (sqF B x y)).txt := by simp [tx4, qX, qY]
    have q1 : tx4 B n x y 1 = (qtf n (sqF B (x + 2 ^ n) y)).txt := by simp [tx4, qX, qY]
    have q2 : tx4 B n x y 2 = (qtf n (sqF B x (y + 2 ^ n))).txt := by simp [tx4, qX, qY]
    have q3 : tx4 B n x y 3 = (qtf n (sqF B (x + 2 ^ n) (y + 2 ^ n))).txt := by simp [tx4, qX, qY]
    rw [q0, q1, q2, q3] at h
    obtain ⟨⟨⟨⟨_, h0⟩, h1, h1l⟩, h2, h2l⟩, h3, h3l⟩ := h
    obtain ⟨b, l1, l0⟩ := leaf_of h1 h1l
    obtain ⟨b2, l2, l0'⟩ := leaf_of h2 h2l
    obtain ⟨b3, l3, l0''⟩ := leaf_of h3 h3l
    rw [l0] at l0' l0''
    cases l0'
    cases l0''
    simp only [QT.nrm, Bool.and_eq_true] at hn
    have hm : mono (qtf n (sqF B x y)) (qtf n (sqF B (x + 2 ^ n) y)) (qtf n (sqF B x (y + 2 ^ n))) (qtf n (sqF B (x + 2 ^ n) (y + 2 ^ n))) = true := mono_iff.2 ⟨b, l0, l1, l2, l3⟩
    have := hn.2.2.2.2
    rw [hm] at this
    cases this
theorem tx4_no {B : Int → Int → Bool} {n x y : Nat} (h : smT (tx4 B n x y) 4 = false) : (qtf (n + 1) (sqF B x y)).txt = 40 :: (catT (tx4 B n x y) 4 ++ [41]) := by
  have q0 : tx4 B n x y 0 = (qtf n (sqF B x y)).txt := by simp [tx4, qX, qY]
  have q1 : tx4 B n x y 1 = (qtf n (sqF B (x + 2 ^ n) y)).txt := by simp [tx4, qX, qY]
  have q2 : tx4 B n x y 2 = (qtf n (sqF B x (y + 2 ^ n))).txt := by simp [tx4, qX, qY]
  have q3 : tx4 B n x y 3 = (qtf n (sqF B (x + 2 ^ n) (y + 2 ^ n))).txt := by simp [tx4, qX, qY]
  by_cases hs : same (n + 1) (sqF B x y)
  · exfalso
    have e2 : 2 ^ (n + 1) = 2 ^ n + 2 ^ n := by rw [Nat.pow_succ]; omega
    have hp : 0 < 2 ^ n := Nat.pow_pos (by decide)
    obtain ⟨b, hb⟩ : ∃ b, ∀ i j, i < 2 ^ (n + 1) → j < 2 ^ (n + 1) → sqF B x y i j = b := ⟨_, hs⟩
    have L : ∀ i0 j0, i0 ≤ 2 ^ n → j0 ≤ 2 ^ n → (qtf n (sqF B (x + i0) (y + j0))).txt = [clr b] := fun i0 j0 h1 h2 => by
      have hh : ∀ i j, i < 2 ^ n → j < 2 ^ n → sqF B (x + i0) (y + j0) i j = b := fun i j hi hj => by
        rw [← hb (i0 + i) (j0 + j) (by omega) (by omega)]
        simp only [sqF]
        rw [Nat.add_assoc, Nat.add_assoc]
      have hs1 : same n (sqF B (x + i0) (y + j0)) := fun i j hi hj => by rw [hh i j hi hj, hh 0 0 hp hp]
      rw [qtf_same hs1, hh 0 0 hp hp]
      rfl
    have k0 := L 0 0 (Nat.zero_le _) (Nat.zero_le _)
    have k1 := L (2 ^ n) 0 (Nat.le_refl _) (Nat.zero_le _)
    have k2 := L 0 (2 ^ n) (Nat.zero_le _) (Nat.le_refl _)
    have k3 := L (2 ^ n) (2 ^ n) (Nat.le_refl _) (Nat.le_refl _)
    simp only [Nat.add_zero] at k0 k1 k2
    have : smT (tx4 B n x y) 4 = true := by
      simp only [smT, q0, q1, q2, q3, k0, k1, k2, k3]
      simp
    rw [h] at this
    cases this
  · have e := qtf_node hs
    rw [sqF_right, sqF_down, sqF_both] at e
    rw [e]
    simp [catT, QT.txt, q0, q1, q2, q3]
theorem catT_len {tx : Nat → List UInt8} {m : Nat} (h : ∀ k, (tx k).length ≤ m) : ∀ k, (catT tx k).length ≤ k * m
  | 0 => by simp [catT]
  | k + 1 => by
    have h1 := catT_len h k
    have h2 := h k
    rw [catT, List.length_append, Nat.add_mul]
    omega
def bsT (l : List UInt8) : ByteArray := ⟨l.toArray⟩
theorem bsT_size (l : List UInt8) : (bsT l).size = l.length := by simp [bsT, ByteArray.size]
theorem bsT_app (l m : List UInt8) : bsT l ++ bsT m = bsT (l ++ m) := by
  apply ByteArray.ext
  simp [bsT]
theorem bsT_beq (l m : List UInt8) : ((bsT l).toList == (bsT m).toList) = (l == m) := by
  rw [ByteArray.toList_eq, ByteArray.toList_eq]; rfl
set_option maxRecDepth 100000 in
set_option maxHeartbeats 4000000 in
theorem treeText_any (p g W H : Nat) (L : List Bool) (hW : W ≤ 1000) (hH : H ≤ 1000) : ∀ (n : Nat), n ≤ 4 → ∀ (S x y : Nat) (w : World), Img w p g W H L → S = 2 ^ n → x + S ≤ 100 → y + S ≤ 100 →
    Calls Tryd.prog 96 #[.pointer (some ⟨p, 0, none⟩), .agg #[.int .i64 x, .int .i64 y, .int .i64 S]] w fun e w' => e = .returned (.string (bsT (qtf n (sqF (fun a b => bit L W H a b) x y)).txt)) ∧ Below w.heap.size w w' := by
  intro n
  induction n with
  | zero =>
    intro _ S x y w hI hS hx hy
    rw [Nat.pow_zero] at hS
    subst hS
    obtain ⟨w1, hw1⟩ : ∃ w1, w.alloc (.cells #[.int .i64 x, .int .i64 y, .int .i64 (1 : Nat)] 89) = w1 := ⟨_, rfl⟩
    have T1 : Blk w1 w.heap.size 89 #[.int .i64 x, .int .i64 y, .int .i64 (1 : Nat)] := by rw [← hw1]; exact Blk.made _ _ _
    have B1 : Below w.heap.size w w1 := by rw [← hw1]; exact Ext.more (Ext.refl _) _
    have hw2 : w.alloc (.cells #[.int .i64 x, .int .i64 y, .int .i64 1] 89) = w1 := hw1
    have HW := Lib.hid hw2
    have G := Lib.hid (get_any p g W H L x y w1 (hI.ext B1) hW hH)
    have F : Hid ((qtf 0 (sqF (fun a b => bit L W H a b) x y)).txt = [clr (bit L W H x y)]) := by
      rw [Hid, qtf_same (same_zero _)]
      simp [QT.txt, sqF]
    have c0 := T1.cell 0
    have c1 := T1.cell 1
    have c2 := T1.cell 2
    simp at c0 c1 c2
    clear hw1 hw2 hI
    cases hb : bit L W H x y
    · rw [hb] at F G
      go_enter Tryd.func96, Tryd.ntmps96
      go_wp2_with fail
      try simp only [HW.out]
      go_wp2_with fail
      refine G.out.mono ?_
      rintro e w2 ⟨rfl, k, rfl⟩
      go_wp2_with fail
      go_ret
      exact ⟨by rw [F.out]; rfl, Ext.drawN B1 _⟩
    · rw [hb] at F G
      go_enter Tryd.func96, Tryd.ntmps96
      go_wp2_with fail
      try simp only [HW.out]
      go_wp2_with fail
      refine G.out.mono ?_
      rintro e w2 ⟨rfl, k, rfl⟩
      go_wp2_with fail
      go_ret
      exact ⟨by rw [F.out]; rfl, Ext.drawN B1 _⟩
  | succ n ih =>
    intro hn S x y w hI hS hx hy
    obtain ⟨h, hh⟩ : ∃ h, 2 ^ n = h := ⟨_, rfl⟩
    have hS2 : S = 2 * h := by rw [hS, Nat.pow_succ, ← hh]; omega
    have h0 : 0 < h := by rw [← hh]; exact Nat.pow_pos (by decide)
    have h8 : h ≤ 8 := by
      rw [← hh]
      exact Nat.le_trans (Nat.pow_le_pow_right (by decide) (show n ≤ 3 by omega)) (by decide)
    have IH := Lib.hid (fun x y w hI => ih (by omega) h x y w hI hh.symm)
    have YES := Lib.hid (@tx4_yes (fun a b => bit L W H a b) n x y)
    have NO := Lib.hid (@tx4_no (fun a b => bit L W H a b) n x y)
    have TXE : Hid (∀ k, tx4 (fun a b => bit L W H a b) n x y k = (qtf n (sqF (fun a b => bit L W H a b) (qX x h k) (qY y h k))).txt) := fun k => by rw [tx4, hh]
    have TXL : ∀ k, (tx4 (fun a b => bit L W H a b) n x y k).length ≤ 1000 := fun k => by
      have h1 := txt_len n _ (qtf_fits n (sqF (fun a b => bit L W H a b) (qX x (2 ^ n) k) (qY y (2 ^ n) k)))
      have h2 : 4 ^ n ≤ 4 ^ 3 := Nat.pow_le_pow_right (by decide) (by omega)
      rw [tx4]
      omega
    have TXP : Hid (∀ k, 0 < (tx4 (fun a b => bit L W H a b) n x y k).length) := fun k => txt_pos _
    have CL := Lib.hid (catT_len TXL)
    have HTL := Lib.hid TXL
    generalize tx4 (fun a b => bit L W H a b) n x y = tx at *
    clear ih hS hh TXL
    obtain ⟨w1, hw1⟩ : ∃ w1, w.alloc (.cells #[.int .i64 x, .int .i64 y, .int .i64 S] 89) = w1 := ⟨_, rfl⟩
    have T1 : Blk w1 w.heap.size 89 #[.int .i64 x, .int .i64 y, .int .i64 S] := by rw [← hw1]; exact Blk.made _ _ _
    have B1 : Below w.heap.size w w1 := by rw [← hw1]; exact Ext.more (Ext.refl _) _
    have HW := Lib.hid hw1
    have hS1 : ((S : Int) == 1) = false := by rw [beq_eq_false_iff_ne]; omega
    have QR := Lib.hid (quarters_any x y h S hS2 w1 (by omega) (by omega) (by omega))
    have HS2 := Lib.hid hS2
    have c0 := T1.cell 0
    have c1 := T1.cell 1
    have c2 := T1.cell 2
    simp at c0 c1 c2
    have HI := Lib.hid hI
    clear hw1 hS2 hI
    go_enter Tryd.func96, Tryd.ntmps96
    go_wp2_with fail
    try simp only [HW.out]
    go_wp2_with fail
    refine QR.out.mono ?_
    rintro e w3 ⟨gq, rfl, T3, hb3⟩
    have B3 := Ext.then_ B1 hb3
    clear c0 c1 c2 QR hb3 hS1
    go_wp2_with fail
    go_loopw [5, 6, 7, 9, 10, 23] (fun ov fv sv _ _ kv wr => ∃ k : Nat, k ≤ 4 ∧ kv = .int .i64 k ∧ ov = .string (bsT (catT tx k)) ∧ fv = .string (bsT (fsT tx k)) ∧ sv = .bool (smT tx k) ∧
      Blk wr gq 89 (qtC x y h) ∧ Below w.heap.size w wr) (fun _ _ _ _ _ kv _ => 4 - (intOf kv).toNat)
    case atStart => exact ⟨0, Nat.zero_le _, rfl, rfl, rfl, rfl, T3, B3⟩
    case round =>
      obtain ⟨k, hk, rfl, rfl, rfl, rfl, T, hb⟩ := hrel
      clear T3 B3
      have gql := T.lt
      have hz := hb.size
      by_cases hk4 : k < 4
      · obtain ⟨e0, e1, e2⟩ := qtC_at x y h k hk4
        have c0 := (T.cell (k * 3)).trans e0
        have c1 := (T.cell (k * 3 + 1)).trans e1
        have c2 := (T.cell (k * 3 + 2)).trans e2
        have hX : qX x h k + h ≤ 100 := by
          have := HS2.out
          rcases (show k = 0 ∨ k = 1 ∨ k = 2 ∨ k = 3 by omega) with e | e | e | e <;> rw [e] <;> simp [qX] <;> omega
        have hY : qY y h k + h ≤ 100 := by
          have := HS2.out
          rcases (show k = 0 ∨ k = 1 ∨ k = 2 ∨ k = 3 by omega) with e | e | e | e <;> rw [e] <;> simp [qY] <;> omega
        have TE := TXE.out k
        obtain ⟨X, hXX⟩ : ∃ X, qX x h k = X := ⟨_, rfl⟩
        obtain ⟨Y, hYY⟩ : ∃ Y, qY y h k = Y := ⟨_, rfl⟩
        rw [hXX] at c0 hX TE
        rw [hYY] at c1 hY TE
        have t4 : (k : Int) < 4 := by omega
        have k0 : (0 : Int) ≤ (k : Int) := by omega
        clear e0 e1 e2
        have T4 : Blk (wr.alloc (.cells #[.int .i64 X, .int .i64 Y, .int .i64 h] 89)) gq 89 (qtC x y h) := T.more _
        have N4 : Blk (wr.alloc (.cells #[.int .i64 X, .int .i64 Y, .int .i64 h] 89)) wr.heap.size 89 #[.int .i64 X, .int .i64 Y, .int .i64 h] := Blk.made _ _ _
        have B4 := Ext.then_ hb (Ext.more (Ext.refl wr) (.cells #[.int .i64 X, .int .i64 Y, .int .i64 h] 89))
        obtain ⟨w4, hw4⟩ : ∃ w4, wr.alloc (.cells #[.int .i64 X, .int .i64 Y, .int .i64 h] 89) = w4 := ⟨_, rfl⟩
        rw [hw4] at T4 B4 N4
        have HW4 := Lib.hid hw4
        have RC := Lib.hid (IH.out X Y w4 (HI.out.ext B4) hX hY)
        rw [← TE] at RC
        have d0 := N4.cell 0
        have d1 := N4.cell 1
        have d2 := N4.cell 2
        simp at d0 d1 d2
        have tk := HTL.out k
        have tp := TXP.out k
        have cl := CL.out k
        have SK : Hid (smT tx (k + 1) = (smT tx k && (tx k == tx 0 && (tx k).length == 1))) := rfl
        have CK : Hid (bsT (catT tx k) ++ bsT (tx k) = bsT (catT tx (k + 1))) := by rw [Hid, bsT_app]; rfl
        have t5 : ¬ 9223372036854775807 < (bsT (catT tx k)).size + (bsT (tx k)).size := by rw [bsT_size, bsT_size]; omega
        have FK : Hid (bsT (fsT tx (k + 1)) = bsT (tx 0)) := rfl
        have sz := bsT_size (tx k)
        have FE : k = 0 → fsT tx k = [] := fun e => by rw [e]; rfl
        have FN : k ≠ 0 → fsT tx k = tx 0 := fun e => by
          obtain ⟨j, rfl⟩ := Nat.exists_eq_succ_of_ne_zero e
          rfl
        have T0 := TXP.out 0
        have HK : Hid (k = 0 → tx k = tx 0) := fun e => by rw [e]
        have E2 := bsT_beq (tx k) (tx 0)
        have E3 : (((bsT (tx k)).size : Int) == 1) = ((tx k).length == 1) := by
          rw [bsT_size, Bool.eq_iff_iff, beq_iff_eq, beq_iff_eq]; omega
        clear hw4 hXX hYY TE TXE
        by_cases hk0 : k = 0
        · subst hk0
          have SK1 : Hid (smT tx 1 = ((tx 0).length == 1)) := by simp [Hid, smT]
          have E2' : ((bsT (tx 0)).toList == (bsT (tx 0)).toList) = true := by simp
          obtain ⟨b3, hb3⟩ : ∃ b3, ((tx 0).length == 1) = b3 := ⟨_, rfl⟩
          rw [hb3] at E3 SK1
          have E3L : (((tx 0).length : Int) == 1) = b3 := by rw [← E3, bsT_size]
          have em : (bsT []).toList.isEmpty = true := by rw [ByteArray.toList_eq]; rfl
          have sm0 : smT tx 0 = true := rfl
          clear hb3
          cases b3
          all_goals
            go_wp2_with fail
            try simp only [HW4.out]
            go_wp2_with fail
            refine RC.out.mono ?_
            rintro e w5 ⟨rfl, hb5⟩
            have B5 := Ext.then_ B4 hb5
            have T5 := T4.under hb5 T4.lt
            generalize bsT (tx 0) = D at *
            generalize bsT (catT tx 0) = C at *
            go_wp2_with fail
            go_roundw
            case rel => exact ⟨1, by omega, by go_num, by rw [← CK.out], by rw [FK.out], by first | rw [SK1.out] | rw [SK1.out, E3L], T5, B5⟩
            case measure => simp [intOf]
        · have FN2 := FN hk0
          have SK2 := SK.out
          obtain ⟨b1, hb1⟩ : ∃ b1, smT tx k = b1 := ⟨_, rfl⟩
          obtain ⟨b2, hb2⟩ : ∃ b2, (tx k == tx 0) = b2 := ⟨_, rfl⟩
          obtain ⟨b3, hb3⟩ : ∃ b3, ((tx k).length == 1) = b3 := ⟨_, rfl⟩
          rw [hb1, hb2, hb3] at SK2
          rw [hb2] at E2
          rw [hb3] at E3
          rw [FN2, hb1]
          have em : (bsT (tx 0)).toList.isEmpty = false := by
            rw [ByteArray.toList_eq]
            cases hh : tx 0 with
            | nil => rw [hh] at T0; exact absurd T0 (by simp)
            | cons a l => rfl
          have E3L : (((tx k).length : Int) == 1) = b3 := by rw [← E3, bsT_size]
          clear hb1 hb2 hb3 SK FN FE FN2 HK
          cases b1 <;> cases b2 <;> cases b3
          all_goals
            go_wp2_with fail
            try simp only [HW4.out]
            go_wp2_with fail
            refine RC.out.mono ?_
            rintro e w5 ⟨rfl, hb5⟩
            have B5 := Ext.then_ B4 hb5
            have T5 := T4.under hb5 T4.lt
            generalize bsT (tx 0) = D0 at *
            generalize bsT (tx k) = D at *
            generalize bsT (catT tx k) = C at *
            go_wp2_with fail
            go_roundw
            case rel => exact ⟨k + 1, by omega, by go_num, by rw [← CK.out], by rw [FK.out], by rw [SK2]; first | rfl | (rw [E3L]; rfl), T5, B5⟩
            case measure => simp [intOf]; omega
      · obtain rfl : k = 4 := by omega
        have E4 : fsT tx 4 = tx 0 := rfl
        rw [E4]
        cases hs : smT tx 4
        · have N := NO.out hs
          have cl := CL.out 4
          have t6 : ¬ 9223372036854775807 < 1 + (bsT (catT tx 4)).size := by rw [bsT_size]; omega
          have t7 : ¬ 9223372036854775807 < 1 + (bsT (catT tx 4)).size + 1 := by rw [bsT_size]; omega
          have J : Hid (ByteArray.mk #[40] ++ bsT (catT tx 4) ++ ByteArray.mk #[41] = bsT (40 :: (catT tx 4 ++ [41]))) := by
            rw [Hid, show ByteArray.mk #[40] = bsT [40] from rfl, show ByteArray.mk #[41] = bsT [41] from rfl, bsT_app, bsT_app]
            simp
          rw [← N] at J
          rw [bsT_size] at t6 t7
          have cs := bsT_size (catT tx 4)
          clear N hs
          generalize bsT (catT tx 4) = C at *
          go_wp2_with fail
          go_ret
          exact ⟨by rw [← J.out]; rfl, hb⟩
        · have Yy := Lib.hid (YES.out hs)
          clear hs
          go_wp2_with fail
          go_ret
          exact ⟨by rw [Yy.out]; rfl, hb⟩
set_option maxRecDepth 100000 in
set_option maxHeartbeats 1000000 in
theorem treeOf_any (p g S n : Nat) (L : List Bool) (w : World) (hI : Img w p g S S L) (hn : n ≤ 4) (hS : S = 2 ^ n) :
    Calls Tryd.prog 62 #[.pointer (some ⟨p, 0, none⟩)] w fun e w' => e = .returned (.agg #[.int .i64 S, .string (bsT (qtf n (sqF (fun a b => bit L S S a b) 0 0)).txt)]) ∧ Below w.heap.size w w' := by
  have h16 : S ≤ 2 ^ 4 := by rw [hS]; exact Nat.pow_le_pow_right (by decide) hn
  have TT := Lib.hid (fun V hI => treeText_any p g S S L (by omega) (by omega) n hn S 0 0 V hI hS (by omega) (by omega))
  clear hS
  have B1 : Below w.heap.size w (w.alloc (.cells #[.int .i64 0, .string ⟨#[]⟩] 45)) := Ext.more (Ext.refl _) _
  have N1 : Blk (w.alloc (.cells #[.int .i64 0, .string ⟨#[]⟩] 45)) w.heap.size 45 #[.int .i64 0, .string ⟨#[]⟩] := Blk.made _ _ _
  obtain ⟨w1, hw1⟩ : ∃ w1, w.alloc (.cells #[.int .i64 0, .string ⟨#[]⟩] 45) = w1 := ⟨_, rfl⟩
  rw [hw1] at B1 N1
  have HW := Lib.hid hw1
  have I1 := hI.ext B1
  have c0 := I1.hdr.cell 0
  simp at c0
  clear hw1
  go_enter Tryd.func62, Tryd.ntmps62
  go_wp2_with fail
  try simp only [HW.out]
  refine wp_region_held_tail 11 (fun V => Below w1.heap.size w1 V) (by kernel_rfl) (by kernel_rfl) (Ext.refl _).drew ?_
  simp only [List.take_succ_cons, List.take_zero, List.drop_succ_cons, List.drop_zero]
  have ne : Nonempty (HeldW (fun V => Below w1.heap.size w1 V)) := ⟨⟨w1, Ext.refl _⟩⟩
  have k0 : ∀ i : HeldW (fun V => Below w1.heap.size w1 V), i.w.cell? ⟨p, 0, none⟩ = some (.int .i64 S) := fun i => (i.h.cell (p := ⟨p, 0, none⟩) I1.hdr.lt).trans c0
  repeat (go_big_quiet_step ((go_at_call 96; exact Calls.above_of _ (TT.out _ (I1.ext (HeldW.h _))))))
  refine wpQuiet_nil ?_
  intro w2 hw'
  clear ne k0
  obtain ⟨⟨_, hb2⟩, rfl⟩ := hw'
  have T2 := N1.under hb2 N1.lt
  have cs0 := (T2.store 0 (.int .i64 S)).cell 0
  simp at cs0
  have nl := T2.lt
  have s0 := T2.cell 0
  have s1 := T2.cell 1
  have f0 := T2.free 0
  have f1 := T2.free 1
  simp at s0 s1
  have Z := (T2.store 0 (.int .i64 S)).store 1 (.string (bsT (qtf n (sqF (fun a b => bit L S S a b) 0 0)).txt))
  have z0 := Z.cell 0
  have z1 := Z.cell 1
  simp at z0 z1
  have BZ := ((Ext.then_ B1 hb2).setCell (p := ⟨w.heap.size, 0, none⟩) (Nat.le_refl _) (.int .i64 S)).setCell (p := ⟨w.heap.size, 1, none⟩) (Nat.le_refl _) (.string (bsT (qtf n (sqF (fun a b => bit L S S a b) 0 0)).txt))
  obtain ⟨tt, htt⟩ : ∃ tt, bsT (qtf n (sqF (fun a b => bit L S S a b) 0 0)).txt = tt := ⟨_, rfl⟩
  rw [htt] at z0 z1 BZ ⊢
  go_wp2_with fail
  refine bodyPost_ret (v := .agg #[.int .i64 S, .string tt]) (by simp [results, Tryd.results62, go_sem, z0, z1]) rfl ⟨by rw [htt], BZ⟩
set_option maxRecDepth 100000 in
set_option maxHeartbeats 1000000 in
theorem treeOfI_any (A : Option Addr) (c n : Nat) (rows : List ByteArray) (w : World) (h : Rd w A (strs rows)) (hok : picOk rows = true) (hn : n ≤ 4) (hS : rows.length = 2 ^ n) (hW : picW rows = 2 ^ n) :
    Calls Tryd.prog 31 #[.agg #[.slice A rows.length c]] w fun e w' => e = .returned (.tuple #[.agg #[.int .i64 rows.length, .string (bsT (qtf n (sqF (fun a b => bit (picBits rows) rows.length rows.length a b) 0 0)).txt)], .bool true]) ∧ Below w.heap.size w w' := by
  obtain ⟨S, hSS⟩ : ∃ S, rows.length = S := ⟨_, rfl⟩
  have h16 : S ≤ 2 ^ 4 := by rw [← hSS, hS]; exact Nat.pow_le_pow_right (by decide) hn
  have hS1 : S = 2 ^ n := hSS ▸ hS
  have SO := Lib.hid (fun V => sideOkI_any (S : Int) V)
  have sd : sdB (S : Int) = true := by
    rw [hS1]
    rcases (show n = 0 ∨ n = 1 ∨ n = 2 ∨ n = 3 ∨ n = 4 by omega) with rfl | rfl | rfl | rfl | rfl <;> decide
  rw [sd] at SO
  have N0 : Blk (w.alloc (.cells #[.slice A S c] 36)) w.heap.size 36 #[.slice A S c] := Blk.made _ _ _
  have B0 : Below w.heap.size w (w.alloc (.cells #[.slice A S c] 36)) := Ext.more (Ext.refl _) _
  obtain ⟨w0, hw0⟩ : ∃ w0, w.alloc (.cells #[.slice A S c] 36) = w0 := ⟨_, rfl⟩
  rw [hw0] at N0 B0
  have z0 : w0.heap.size = w.heap.size + 1 := by rw [← hw0]; simp
  have N1 : Blk (w0.alloc (.cells #[.int .i64 0, .string ⟨#[]⟩] 45)) w0.heap.size 45 #[.int .i64 0, .string ⟨#[]⟩] := Blk.made _ _ _
  have B1 := Ext.then_ B0 (Ext.more (Ext.refl w0) (.cells #[.int .i64 0, .string ⟨#[]⟩] 45))
  have N0' := N0.more (.cells #[.int .i64 0, .string ⟨#[]⟩] 45)
  obtain ⟨w1, hw1⟩ : ∃ w1, w0.alloc (.cells #[.int .i64 0, .string ⟨#[]⟩] 45) = w1 := ⟨_, rfl⟩
  rw [hw1] at N1 B1 N0'
  have HW0 := Lib.hid hw0
  have HW1 := Lib.hid hw1
  rw [z0] at N1
  have IM := Lib.hid (imageOf_any A c rows w1 (h.ext B1) (by omega))
  rw [hSS] at IM ⊢
  have TO := Lib.hid (fun p g V hI => treeOf_any p g S n (picBits rows) V hI hn hS1)
  have d0 := N0'.cell 0
  simp at d0
  have HS1 := Lib.hid hS1
  have HSS := Lib.hid hSS
  clear hw0 hw1 hS sd hS1 hSS
  go_enter Tryd.func31, Tryd.ntmps31
  go_wp2_with fail
  try simp only [HW0.out]
  try simp only [HW1.out]
  refine IM.out.mono ?_
  rintro e w2 E
  obtain ⟨p, g, rfl, hI, hp, hg⟩ := E.yes hok
  have B2 := Ext.then_ B1 E.ext
  have T2 := N1.under E.ext N1.lt
  rw [HSS.out, hW, ← HS1.out] at hI
  have I0 := hI.hdr.cell 0
  have I1 := hI.hdr.cell 1
  simp at I0 I1
  have pl := hI.hdr.lt
  clear IM E
  go_wp2_with fail
  refine wp_region_held_quiet (fun U => Below w2.heap.size w2 U) (by kernel_rfl) (by kernel_rfl) (Ext.refl _).drew ?_
  have ne : Nonempty (HeldW (fun U => Below w2.heap.size w2 U)) := ⟨⟨w2, Ext.refl _⟩⟩
  have v0 : ∀ i : HeldW (fun U => Below w2.heap.size w2 U), i.w.cell? ⟨p, 0, none⟩ = _ := fun i => (i.h.cell (p := ⟨p, 0, none⟩) pl).trans I0
  have v1 : ∀ i : HeldW (fun U => Below w2.heap.size w2 U), i.w.cell? ⟨p, 1, none⟩ = _ := fun i => (i.h.cell (p := ⟨p, 1, none⟩) pl).trans I1
  repeat (go_big_quiet_step ((go_at_call 61; exact Calls.above_of _ (SO.out _))))
  refine wpQuiet_nil ?_
  intro w3 hw'
  obtain ⟨⟨_, hb3⟩, rfl⟩ := hw'
  clear ne v0 v1
  have TO3 := Lib.hid (TO.out p g w3 (hI.ext hb3))
  obtain ⟨tt, htt⟩ : ∃ tt, bsT (qtf n (sqF (fun a b => bit (picBits rows) S S a b) 0 0)).txt = tt := ⟨_, rfl⟩
  rw [htt] at TO3
  have HTT := Lib.hid htt
  clear TO I0 I1 htt
  go_wp2_with fail
  refine TO3.out.mono ?_
  rintro e w4 ⟨rfl, hb4⟩
  have B4 := Ext.then_ (Ext.then_ B2 hb3) hb4
  have T3 := T2.under hb3 T2.lt
  have T4 := T3.under hb4 T3.lt
  have s0 := T4.cell 0
  have s1 := T4.cell 1
  have f0 := T4.free 0
  have f1 := T4.free 1
  simp at s0 s1
  have Z := (T4.store 0 (.int .i64 S)).store 1 (.string tt)
  have z0 := Z.cell 0
  have z1 := Z.cell 1
  simp at z0 z1
  have BZ := (B4.setCell (p := ⟨w.heap.size + 1, 0, none⟩) (by show w.heap.size ≤ w.heap.size + 1; omega) (.int .i64 S)).setCell (p := ⟨w.heap.size + 1, 1, none⟩) (by show w.heap.size ≤ w.heap.size + 1; omega) (.string tt)
  have tl := T4.lt
  go_wp2_with fail
  refine bodyPost_ret (v := .tuple #[.agg #[.int .i64 S, .string tt], .bool true]) (by simp [results, Tryd.results31, go_sem, z0, z1]) rfl ⟨by rw [HTT.out], BZ⟩
end Go.Proofs.YtogefmkplkddoaaDoor
