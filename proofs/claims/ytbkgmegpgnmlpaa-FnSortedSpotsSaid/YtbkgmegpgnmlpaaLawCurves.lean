/- The law FnCurves: its walk. -/
import Derived.Test.YtbkgmegpgnmlpaaCurvP
import Derived.Test.YtbkgmegpgnmlpaaBytes
namespace Go.Proofs.Ytbkgmegpgnmlpaa
open Go.RowKit

theorem ret_iB {a b : Int} {d : Bool} (h : a = b) : Ending.returned (.tuple #[.int .i64 a, .bool d]) = .returned (.tuple #[.int .i64 b, .bool d]) := by rw [h]

set_option maxHeartbeats 400000 in
theorem indexOf_ok (c o x y : Int) (w : World) (hc : curveOkB c o = true) (hx0 : 0 ≤ x) (hx : x < side o) (hy0 : 0 ≤ y) (hy : y < side o) :
    Calls Try.prog 18 #[.int .i64 c, .int .i64 o, .int .i64 x, .int .i64 y] w fun e w' => e = .returned (.tuple #[.int .i64 (idxI c o x y), .bool true]) ∧ Below w.heap.size w w' := by
  obtain ⟨⟨hc0, hc3⟩, h0, h4⟩ := curveOk_iff.1 hc
  have e1 := inB_true (n := x) (lo := 0) (hi := side o - 1) hx0 (by omega)
  have e2 := inB_true (n := y) (lo := 0) (hi := side o - 1) hy0 (by omega)
  have O := Lib.hid (fun W => onCurve_any o x y W h0 h4)
  rw [e1, e2] at O
  have I := Lib.hid (fun W => indexOf_any c o x y W hc0 hc3 h0 h4 hx0 hx hy0 hy)
  clear e1 e2
  go_enter Try.func18, Try.ntmps18
  go_wp2_with (first | (go_at_call 47; refine (curveOk_any _ _ _).mono ?_; rintro e w' ⟨rfl, rfl⟩) | (go_at_call 52; refine (O.out _).mono ?_; rintro e w' ⟨rfl, rfl⟩) | (go_at_call 53; refine (I.out _).mono ?_; rintro e w' ⟨rfl, rfl⟩))
  go_ret2
  exact ⟨rfl, Ext.more (Ext.more (Ext.refl _) _) _⟩

set_option maxHeartbeats 400000 in
theorem kindOk_0 (w : World) : Calls Try.prog 54 #[.int .i64 0] w fun e w' => e = .returned (.bool true) ∧ w = w' := by
  have e1 := inB_true (n := 0) (lo := 0) (hi := 2) (by decide) (by decide)
  have I := Lib.hid (fun W => in_any 0 0 2 W)
  rw [e1] at I
  clear e1
  go_enter Try.func54, Try.ntmps54
  go_wp2_with (go_at_call 51; refine (I.out _).mono ?_; rintro e w' ⟨rfl, rfl⟩)
  go_ret
  exact ⟨rfl, rfl⟩

set_option maxHeartbeats 400000 in
theorem nearOk_ok (x y : Int) (w : World) (hx0 : -1 ≤ x) (hx : x ≤ 16) (hy0 : -1 ≤ y) (hy : y ≤ 16) :
    Calls Try.prog 55 #[.agg #[.int .i64 x, .int .i64 y]] w fun e w' => e = .returned (.bool true) ∧ w.alloc (.cells #[.int .i64 x, .int .i64 y] 29) = w' := by
  have I1 := Lib.hid (fun W => in_any x (-1) 16 W)
  have I2 := Lib.hid (fun W => in_any y (-1) 16 W)
  rw [inB_true hx0 hx] at I1
  rw [inB_true hy0 hy] at I2
  go_enter Try.func55, Try.ntmps55
  go_wp2_with fail
  refine (I1.out _).mono ?_
  rintro e w' ⟨rfl, rfl⟩
  go_wp2_with fail
  refine (I2.out _).mono ?_
  rintro e w' ⟨rfl, rfl⟩
  go_wp2_with fail
  go_ret
  exact ⟨rfl, rfl⟩

set_option maxHeartbeats 400000 in
theorem farSpots_ok (ax ay bx by_ : Int) (w : World) (a1 : 0 ≤ ax) (a2 : ax ≤ 16) (b1 : 0 ≤ ay) (b2 : ay ≤ 16) (c1 : 0 ≤ bx) (c2 : bx ≤ 16) (d1 : 0 ≤ by_) (d2 : by_ ≤ 16) :
    Calls Try.prog 19 #[.int .i64 0, .agg #[.int .i64 ax, .int .i64 ay], .agg #[.int .i64 bx, .int .i64 by_]] w fun e w' => e = .returned (.tuple #[.int .i64 (far0 ax ay bx by_), .bool true]) ∧ Below w.heap.size w w' := by
  have N1 := Lib.hid (fun W => nearOk_ok ax ay W (by omega) a2 (by omega) b2)
  have N2 := Lib.hid (fun W => nearOk_ok bx by_ W (by omega) c2 (by omega) d2)
  have FH := Lib.hid (fun W => far_city ax ay bx by_ W ⟨by omega, by omega⟩ ⟨by omega, by omega⟩ ⟨by omega, by omega⟩ ⟨by omega, by omega⟩)
  go_enter Try.func19, Try.ntmps19
  go_wp2_with (go_at_call 54; refine (kindOk_0 _).mono ?_; rintro e w' ⟨rfl, rfl⟩)
  refine (N1.out _).mono ?_
  rintro e w' ⟨rfl, rfl⟩
  go_wp2_with fail
  refine (N2.out _).mono ?_
  rintro e w' ⟨rfl, rfl⟩
  go_wp2_with fail
  refine (FH.out _).mono ?_
  rintro e w' ⟨rfl, hb⟩
  go_wp2_with fail
  go_ret2
  exact ⟨rfl, Ext.then_ (Ext.more (Ext.more (Ext.more (Ext.more (Ext.refl _) _) _) _) _) hb⟩

theorem spot_at_in {c o : Int} {s : Nat} (hc : curveOkB c o = true) (hs : side o = s) (k : Nat) (hk : k < s * s) (W : World) :
    Calls Try.prog 17 #[.int .i64 c, .int .i64 o, .int .i64 k] W fun e w' => e = .returned (.tuple #[.agg #[.int .i64 (gp (visTo c o s s) k).1, .int .i64 (gp (visTo c o s s) k).2], .bool true]) ∧ Below W.heap.size W w' := by
  have h := spotAt_any c o k W
  have hk2 : (k : Int) < (s : Int) * s := by rw [← Int.natCast_mul]; omega
  have e1 : spotOk c o k = true := by simp only [spotOk, hc, Bool.true_and, hs]; exact inB_true (by omega) (by omega)
  have e2 : spotP c o k = gp (visTo c o s s) k := by simp [spotP, e1, hs, gp]
  rw [e1, e2] at h
  exact h
theorem spot_at_out {c o : Int} {s : Nat} (hs : side o = s) (W : World) :
    Calls Try.prog 17 #[.int .i64 c, .int .i64 o, .int .i64 ((s : Int) * s)] W fun e w' => e = .returned (.tuple #[.agg #[.int .i64 0, .int .i64 0], .bool false]) ∧ Below W.heap.size W w' := by
  have h := spotAt_any c o ((s : Int) * s) W
  have e1 : spotOk c o ((s : Int) * s) = false := by
    simp only [spotOk, hs, Bool.and_eq_false_iff]; right; exact inB_not.2 (by omega)
  have e2 : spotP c o ((s : Int) * s) = (0, 0) := by simp [spotP, e1]
  rw [e1, e2] at h
  exact h

set_option maxRecDepth 100000 in
set_option maxHeartbeats 1000000 in
theorem lawCurves_any (A B : Option Addr) (n cA m cB : Nat) (l1 : List Int) (w : World) (hA : BytesAt w A n l1) (hn : n ≤ maxLen) (hm : m ≤ maxLen) :
    Calls Try.prog 3 #[.slice A n cA, .slice B m cB] w fun e w' => e = .returned (.bool true) ∧ Below w.heap.size w w' := by
  have LH := Lib.hid (fun W => long_any A B n cA m cB hn hm W)
  generalize (decide (48 < n) || decide (48 < m)) = b at LH
  have A1 := Lib.hid (bAt_any A l1 n cA 0 4 w hA hn (by decide) (by decide) (by decide))
  have A2 := Lib.hid (bAt_any A l1 n cA 1 5 w hA hn (by decide) (by decide) (by decide))
  have bc := atI_bd (l := l1) 0 (n := 4) (by decide)
  have bo := atI_bd (l := l1) 1 (n := 5) (by decide)
  generalize atI l1 0 4 = c at A1 bc
  generalize atI l1 1 5 = o at A2 bo
  obtain ⟨hc0, hc3⟩ := bc
  obtain ⟨h0, h4⟩ := bo
  have hok : Hid (curveOkB c o = true) := curveOk_iff.2 ⟨⟨hc0, by omega⟩, h0, by omega⟩
  cases b
  · obtain ⟨s, hs⟩ := Int.eq_ofNat_of_zero_le (show 0 ≤ side o by have := side_pos h0 (by omega); omega)
    have hS := side_wrap h0 (by omega)
    have hS1 := side_pos h0 (by omega)
    have hS2 := side_le h0 (by omega)
    rw [hs] at hS hS1 hS2
    have CF := curve_facts c o hc0 (by omega) h0 (by omega) s hs
    have SI := Lib.hid (fun (k : Nat) (hk : k < s * s) W => spot_at_in (c := c) hok.out hs k hk W)
    have SO := Lib.hid (fun W => spot_at_out (c := c) (o := o) hs W)
    have GO := Lib.hid (fun W => longest_any c o W)
    have hlong : longI c o = mx0 (visTo c o s s) (s * s - 1) := by simp [longI, hok.out, hs]
    rw [hlong, hok.out] at GO
    have IdO := Lib.hid (fun (x y : Int) W (a : 0 ≤ x) (b : x < s) (cc : 0 ≤ y) (d : y < s) => indexOf_ok c o x y W hok.out a (by rw [hs]; exact b) cc (by rw [hs]; exact d))
    have FIN : Hid (¬ o = 0 → (c = 1 ∨ c = 3) → mx0 (visTo c o s s) (s * s - 1) = 1) := by
      intro ho hc
      refine CF.one hc ?_
      have : 1 < side o := by
        have : o = 1 ∨ o = 2 ∨ o = 3 ∨ o = 4 := by omega
        rcases this with rfl | rfl | rfl | rfl <;> decide
      omega
    clear hlong hs
    generalize visTo c o s s = L at *
    go_enter Try.func3, Try.ntmps3
    go_wp2_with (first | (go_at_call 14; refine (LH.out _).mono ?_; rintro e w' ⟨rfl, rfl⟩))
    refine A1.out.mono ?_
    rintro e w' ⟨rfl, rfl⟩
    go_wp2_with fail
    refine A2.out.mono ?_
    rintro e w' ⟨rfl, rfl⟩
    go_wp2_with fail
    refine (GO.out _).mono ?_
    rintro e w1 ⟨rfl, hb1⟩
    go_wp2_with fail
    obtain ⟨g, hg⟩ : ∃ g, g = w1.heap.size := ⟨_, rfl⟩
    rw [← hg]
    have hB0 := Blk.made w1 29 #[.int .i64 0, .int .i64 0]
    rw [← hg] at hB0
    have hgw : w.heap.size ≤ g := by rw [hg]; exact hb1.size
    have hb1' := Ext.more hb1 (.cells #[.int .i64 0, .int .i64 0] 29)
    have first := CF.first
    have hlen := CF.len
    have hss : s * s ≤ 256 := Nat.le_trans (Nat.mul_le_mul (show s ≤ 16 by omega) (show s ≤ 16 by omega)) (by decide)
    clear hg hb1
    go_loopw [10, 12] (fun v i wr => ∃ k : Nat, k ≤ s * s ∧ i = .int .i64 k ∧ v = .int .i64 (mx0 L (k - 1)) ∧ Blk wr g 29 #[.int .i64 (gp L (k - 1)).1, .int .i64 (gp L (k - 1)).2] ∧ Below w.heap.size w wr) (fun _ i _ => s * s - (intOf i).toNat)
    case atStart => exact ⟨0, Nat.zero_le _, rfl, rfl, by rw [first]; exact hB0, hb1'⟩
    case round =>
      obtain ⟨k, hk, rfl, rfl, hB, hb⟩ := hrel
      clear hB0 hb1'
      by_cases hlt : k < s * s
      · have hk2 : (k : Int) < (s : Int) * s := by rw [← Int.natCast_mul]; omega
        have P := CF.at_ k (by omega)
        have Q := CF.at_ (k - 1) (by omega)
        have M : Hid (0 < k → mx0 L k = max (mx0 L (k - 1)) (jmp (gp L (k - 1)) (gp L k))) := by
          intro h
          obtain ⟨j, rfl⟩ : ∃ j, k = j + 1 := ⟨k - 1, by omega⟩
          rfl
        have eP : L[k] = gp L k := by simp [gp, show k < L.length from by omega]
        have eQ : L[k - 1] = gp L (k - 1) := by simp [gp, show k - 1 < L.length from by omega]
        rw [eP] at P
        rw [eQ] at Q
        clear eP eQ
        have S := Lib.hid (SI.out k hlt)
        unfold jmp at M
        generalize gp L (k - 1) = q at *
        generalize hp : gp L k = p at *
        obtain ⟨px, py⟩ := p
        obtain ⟨qx, qy⟩ := q
        simp only at P Q M S hB
        obtain ⟨p1, p2, p3, p4, p5⟩ := P
        obtain ⟨q1, q2, q3, q4, _⟩ := Q
        have I := Lib.hid (fun W => IdO.out px py W p1 p2 p3 p4)
        rw [p5] at I
        have FH := Lib.hid (fun W => farSpots_ok qx qy px py W q1 (by omega) q3 (by omega) p1 (by omega) p3 (by omega))
        have HP := Lib.hid hp
        clear hp p5
        have t1 : ((k : Int) != k) = false := by simp
        go_wp2_with fail
        refine (S.out _).mono ?_
        rintro e w2 ⟨rfl, hb2⟩
        have hB2 := hB.under hb2 hB.lt
        have hg2 := hB2.lt
        go_wp2_with fail
        refine (I.out _).mono ?_
        rintro e w3 ⟨rfl, hb3⟩
        have hB3 := (hB2.more (.cells #[.int .i64 px, .int .i64 py] 29)).under hb3 (by simp; omega)
        have hN3 := (Blk.made w2 29 #[.int .i64 px, .int .i64 py]).under hb3 (by simp)
        have c1 := hB3.cell 0
        have c2 := hB3.cell 1
        have c3 := hN3.cell 0
        have c4 := hN3.cell 1
        simp at c1 c2 c3 c4
        go_wp2_with fail
        refine (FH.out _).mono ?_
        rintro e w4 ⟨rfl, hb4⟩
        have hB4 := hB3.under hb4 hB3.lt
        have hN4 := hN3.under hb4 hN3.lt
        clear c1 c2 c3 c4
        have c1 := hB4.cell 0
        have c2 := hB4.cell 1
        have c3 := hN4.cell 0
        have c4 := hN4.cell 1
        have f1 := hB4.free 0
        have f2 := hB4.free 1
        simp at c1 c2 c3 c4
        have hb5 := Ext.then_ (Ext.then_ (Ext.more (Ext.then_ hb hb2) (.cells #[.int .i64 px, .int .i64 py] 29)) hb3) hb4
        clear hb2 hb3 hb4 hB2 hB3 hN3 hB hb S I FH
        by_cases hk0 : (0 : Int) < (k : Int)
        · have M' := M.out (by omega)
          by_cases hd : mx0 L (k - 1) < far0 qx qy px py
          · have R : Hid (far0 qx qy px py = mx0 L k) := by rw [Hid, M']; exact (Int.max_eq_right (by omega)).symm
            clear M M'
            go_wp2_with fail
            go_roundw
            case rel =>
              refine ⟨k + 1, by omega, by go_num, by rw [R.out]; rfl, ?_, ?_⟩
              · show Blk _ g _ #[.int .i64 (gp L k).1, .int .i64 (gp L k).2]
                rw [HP.out]
                exact (hB4.store 0 _).store 1 _
              · exact (hb5.setCell (p := ⟨g, _, none⟩) hgw _).setCell (p := ⟨g, _, none⟩) hgw _
            case measure => simp [intOf]; omega
          · have R : Hid (mx0 L (k - 1) = mx0 L k) := by rw [Hid, M']; exact (Int.max_eq_left (by omega)).symm
            clear M M'
            go_wp2_with fail
            go_roundw
            case rel =>
              refine ⟨k + 1, by omega, by go_num, by rw [R.out]; rfl, ?_, ?_⟩
              · show Blk _ g _ #[.int .i64 (gp L k).1, .int .i64 (gp L k).2]
                rw [HP.out]
                exact (hB4.store 0 _).store 1 _
              · exact (hb5.setCell (p := ⟨g, _, none⟩) hgw _).setCell (p := ⟨g, _, none⟩) hgw _
            case measure => simp [intOf]; omega
        · have R : Hid (mx0 L (k - 1) = mx0 L k) := by
            have : k = 0 := by omega
            subst this; rfl
          clear M
          go_wp2_with fail
          go_roundw
          case rel =>
            refine ⟨k + 1, by omega, by go_num, by rw [R.out]; rfl, ?_, ?_⟩
            · show Blk _ g _ #[.int .i64 (gp L k).1, .int .i64 (gp L k).2]
              rw [HP.out]
              exact (hB4.store 0 _).store 1 _
            · exact (hb5.setCell (p := ⟨g, _, none⟩) hgw _).setCell (p := ⟨g, _, none⟩) hgw _
          case measure => simp [intOf]; omega
      · obtain rfl : k = s * s := by omega
        have hsp : 0 < s * s := Nat.mul_pos (by omega) (by omega)
        have hsp2 : ¬ ((s * s : Nat) : Int) < (s : Int) * s := by rw [← Int.natCast_mul]; omega
        have S0 := Lib.hid (SI.out 0 hsp)
        rw [first] at S0
        have t1 : (mx0 L (s * s - 1) != mx0 L (s * s - 1)) = false := by simp
        go_wp2_with fail
        refine (SO.out _).mono ?_
        rintro e w2 ⟨rfl, hb2⟩
        go_wp2_with fail
        refine (S0.out _).mono ?_
        rintro e w3 ⟨rfl, hb3⟩
        go_wp2_with fail
        all_goals
          go_ret
          refine ⟨ret_bool ?_, Ext.more (Ext.then_ (Ext.more (Ext.then_ hb hb2) _) hb3) _⟩
          first
            | rfl
            | (have := FIN.out (by assumption) (by first | exact Or.inl ‹_› | exact Or.inr ‹_›); simp [this])
  · go_enter Try.func3, Try.ntmps3
    go_wp2_with (first | (go_at_call 14; refine (LH.out _).mono ?_; rintro e w' ⟨rfl, rfl⟩))
    go_ret
    exact ⟨rfl, Ext.refl _⟩
theorem lawCurves (w : World) (A : Option Addr) (n cA : Nat) (l1 : List Int) (hA : BytesAt w A n l1) (hn : n ≤ maxLen) (B : Option Addr) (m cB : Nat) (l2 : List Int) (_hB : BytesAt w B m l2) (hm : m ≤ maxLen) :
    Calls Try.prog 3 #[.slice A n cA, .slice B m cB] w fun e w' => e = .returned (.bool true) ∧ Below w.heap.size w w' :=
  lawCurves_any A B n cA m cB l1 w hA hn hm
end Go.Proofs.Ytbkgmegpgnmlpaa
