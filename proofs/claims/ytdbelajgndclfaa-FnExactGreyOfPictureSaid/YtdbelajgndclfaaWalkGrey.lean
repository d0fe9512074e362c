/- The law FnExactGreyOfPicture, walked. -/
import Derived.Test.YtdbelajgndclfaaPicL
import Derived.Test.YtdbelajgndclfaaSGreyP
namespace Go.Proofs.Ytdbelajgndclfaa
open Go.RowKit

theorem tot_grid (f : Nat → Nat → Int) (W : Nat) (k : Nat) : tot (gridI f W k) (gridI f W k).length = k * W := by
  have e : ∀ (n : Nat), ((List.range n).map (fun y => (rowI f y W).length)).sum = n * W := by
    intro n
    induction n with
    | zero => simp
    | succ n ih => rw [List.range_succ, List.map_append, List.sum_append, ih]; simp [rowI_length, Nat.add_mul]
  unfold tot
  rw [List.take_length, gridI, List.map_map]
  exact e k
theorem small_grid (f : Nat → Nat → Int) (W H : Nat) (hH : H ≤ 16) (hW : W ≤ 16) : (gridI f W H).length ≤ 1048576 ∧ tot (gridI f W H) (gridI f W H).length ≤ 1048576 ∧ ∀ i (h : i < (gridI f W H).length), (gridI f W H)[i].length ≤ 1048576 := by
  refine ⟨by rw [gridI_length]; omega, ?_, fun i h => ?_⟩
  · rw [tot_grid]
    exact Nat.le_trans (Nat.mul_le_mul hH hW) (by decide)
  · simp only [gridI, List.getElem_map, rowI_length]; omega

set_option maxRecDepth 100000 in
set_option maxHeartbeats 4000000 in
theorem walkGreyOfPicture (W : World) (A : Option Addr) (c : Nat) (rows : List ByteArray) (hA : RdA W A (strs rows)) (hn : rows.length ≤ maxLen) (hsz : ∀ r ∈ rows, r.size ≤ maxLen) :
    Calls Try.prog 6 #[.agg #[.slice A rows.length c]] W fun e w' => e = .returned (.bool true) ∧ Below W.heap.size W w' := by
  have SZ := Lib.hid (fun V (hb : Below W.heap.size W V) => szPic_any A c rows 1048576 (by omega) V (hA.ext hb) hn hsz)
  have TP := Lib.hid (fun V (hb : Below W.heap.size W V) (hn' : rows.length ≤ 1048576) => toPic_any A c rows V (hA.ext hb) hn')
  have EX := Lib.hid (fun (A B : Option Addr) (c d : Nat) V (h1 : Rd V A (strs rows)) (h2 : Rd V B (strs rows)) (hn' : rows.length ≤ 1048576) => eqPic_any A B c d rows V h1 h2 (by omega))
  have MX := Lib.hid (fun (base : Nat) (A : Option Addr) (c : Nat) V (h1 : V.ownsRow base 9 1 (.slice A rows.length c) rows.length (strs rows)) (hn' : rows.length ≤ 1048576) => markPic_any base A c rows 1 (by omega) V h1 (by omega) (by omega))
  have IM := Lib.hid (fun (A : Option Addr) (c : Nat) V (h1 : Rd V A (strs rows)) (hn' : rows.length ≤ 1048576) => greyOf_any A c rows V h1 (by omega))
  have SP := Lib.hid (fun (A : Option Addr) (c : Nat) V (h1 : Rd V A (strs rows)) (hn' : rows.length ≤ 1048576) => greyOfS_any A c rows V h1 (by omega))
  have hRn : Hid (((if picOk rows then greyOf rows else [])).length ≤ 1048576 ∧ tot (if picOk rows then greyOf rows else []) ((if picOk rows then greyOf rows else [])).length ≤ 1048576 ∧ ∀ i (h : i < ((if picOk rows then greyOf rows else [])).length), (((if picOk rows then greyOf rows else []))[i]'h).length ≤ 1048576) := by
    by_cases hp : picOk rows = true
    · obtain ⟨s1, s2, s3, s4⟩ := picOk_sizes hp
      simp only [if_pos hp]
      exact small_grid _ _ _ s2 s4
    · simp only [if_neg hp]
      exact ⟨by simp, by simp [tot], fun i h => absurd h (by simp)⟩
  clear hA hn hsz
  generalize (if picOk rows then greyOf rows else []) = RR at *
  generalize picOk rows = ok at *
  have ER := Lib.hid (fun (A B : Option Addr) (c d : Nat) V (h1 : MatRd V A RR) (h2 : MatRd V B RR) => eqGrey_any A B c d RR V h1 h2 (by have := hRn.out.1; omega) (fun i h => by have := hRn.out.2.2 i h; omega))
  have MR := Lib.hid (fun (lo hi : Nat) (A : Option Addr) (c : Nat) (vs : List Value) V (h1 : MatAt V lo hi A c vs RR) => markGrey_any lo hi A c vs RR 1 V h1 (by have := hRn.out.1; omega) (by have := hRn.out.2.1; omega) (by omega))
  have HR := Lib.hid (fun (A : Option Addr) (c : Nat) V (h1 : MatRd V A (mkRows 1 RR RR.length)) => heldGrey_any A c RR 1 V h1 (by have := hRn.out.1; omega) (by have := hRn.out.2.1; omega) (by omega))
  have hml := mkRows_length 1 RR RR.length
  generalize rows.length = n at *
  have B1 : Below W.heap.size W (W.alloc (.cells #[.slice A n c] 32)) := Ext.more (Ext.refl _) _
  have T1 : Blk (W.alloc (.cells #[.slice A n c] 32)) W.heap.size 32 #[.slice A n c] := Blk.made _ _ _
  go_enter Try.func6, Try.ntmps6
  go_wp2_with fail
  refine (SZ.out _ B1).mono ?_
  rintro e w1 ⟨⟨r, rfl, hr⟩, hb⟩
  replace B1 := Ext.then_ B1 hb
  replace T1 := T1.under hb T1.lt
  clear hb
  by_cases h0 : r < 0
  · clear hr
    go_wp2_with fail
    go_ret
    exact ⟨rfl, B1⟩
  have hn' : n ≤ 1048576 := by omega
  have hmt := hRn.out.2.1
  clear hr hRn SZ hml
  generalize mkRows 1 RR RR.length = MK at *
  generalize tot RR RR.length = tt at *
  have k1 := T1.cell 0
  simp at k1
  go_wp2_with fail
  -- the reference's result
  refine (TP.out _ B1 hn').mono ?_
  rintro e w2 ⟨A2, c2, rfl, own2, hb2⟩
  replace B1 := Ext.then_ B1 hb2
  replace T1 := T1.under hb2 T1.lt
  clear k1 hb2
  go_wp2_with fail
  refine (SP.out _ _ _ (Rd.of_own own2) hn').mono ?_
  rintro e w3 ⟨A3, c3, vs3, rfl, own3, hb3⟩
  replace B1 := Ext.more (Ext.then_ B1 hb3) (.cells #[.slice A3 RR.length c3] 39)
  replace T1 := (T1.under hb3 T1.lt).more (.cells #[.slice A3 RR.length c3] 39)
  have T4 := Blk.made w3 39 #[.slice A3 RR.length c3]
  replace own3 := own3.ext (Ext.more (Ext.refl _) (.cells #[.slice A3 RR.length c3] 39))
  clear own2 hb3
  have k1 := T1.cell 0
  simp at k1
  go_wp2_with fail
  generalize hV3 : w3.alloc (.cells #[.slice A3 RR.length c3] 39) = V3 at *
  have z4 := T4.lt
  have z1 := T1.lt
  -- the argument handed to the program
  refine (TP.out _ B1 hn').mono ?_
  rintro e w4 ⟨A4, c4, rfl, own4, hb4⟩
  have s4' : ∀ a, A4 = some a → V3.heap.size ≤ a.block := fun a h => by subst h; exact (own4.lt a.block rfl).1
  replace B1 := Ext.more (Ext.then_ B1 hb4) (.cells #[.slice A4 n c4] 26)
  replace T1 := (T1.under hb4 T1.lt).more (.cells #[.slice A4 n c4] 26)
  replace T4 := (T4.under hb4 T4.lt).more (.cells #[.slice A4 n c4] 26)
  replace own3 := (own3.ext hb4).ext (Ext.more (Ext.refl _) (.cells #[.slice A4 n c4] 26))
  have T6 := Blk.made w4 26 #[.slice A4 n c4]
  have t6 : ∀ a, A4 = some a → a.block < w4.heap.size := fun a h => by subst h; exact (own4.lt a.block rfl).2
  replace own4 := own4.alloc (.cells #[.slice A4 n c4] 26)
  have y4 := hb4.size
  clear k1 hb4
  have k6 := T6.cell 0
  simp at k6
  go_wp2_with fail
  generalize hV4 : w4.alloc (.cells #[.slice A4 n c4] 26) = V4 at *
  have z6 := T6.lt
  refine (IM.out _ _ _ (Rd.of_own own4) hn').mono ?_
  rintro e w5 ⟨A5, c5, vs5, rfl, own5, hb5⟩
  have hz5 := hb5.size
  replace B1 := Ext.more (Ext.then_ B1 hb5) (.cells #[.slice A5 RR.length c5] 39)
  replace T1 := (T1.under hb5 T1.lt).more (.cells #[.slice A5 RR.length c5] 39)
  replace T4 := (T4.under hb5 T4.lt).more (.cells #[.slice A5 RR.length c5] 39)
  replace T6 := (T6.under hb5 T6.lt).more (.cells #[.slice A5 RR.length c5] 39)
  replace own3 := (own3.ext hb5).ext (Ext.more (Ext.refl _) (.cells #[.slice A5 RR.length c5] 39))
  replace own4 := (own_ext hb5 own4).alloc (.cells #[.slice A5 RR.length c5] 39)
  have T7 := Blk.made w5 39 #[.slice A5 RR.length c5]
  replace own5 := own5.ext (Ext.more (Ext.refl _) (.cells #[.slice A5 RR.length c5] 39))
  clear k6 hb5
  have k7 := T7.cell 0
  have k4 := T4.cell 0
  simp at k7 k4
  go_wp2_with fail
  generalize w5.alloc (.cells #[.slice A5 RR.length c5] 39) = V5 at *
  refine (ER.out _ _ _ _ V5 own5.rd own3.rd).mono ?_
  rintro e w6 ⟨rfl, hb6⟩
  replace B1 := Ext.then_ B1 hb6
  replace T1 := T1.under hb6 T1.lt
  replace T4 := T4.under hb6 T4.lt
  replace T6 := T6.under hb6 T6.lt
  replace T7 := T7.under hb6 T7.lt
  replace own3 := own3.ext hb6
  replace own4 := own_ext hb6 own4
  replace own5 := own5.ext hb6
  clear k7 k4 hb6
  have q0 : (ok != ok) = false := by simp
  go_wp2_with fail
  -- the argument is as it was
  have k6 := T6.cell 0
  have k1 := T1.cell 0
  simp at k6 k1
  have z6' := T6.lt
  have z1' := T1.lt
  go_region_held3 (fun w' => w'.cell? ⟨w4.heap.size, 0, none⟩ = some (.slice A4 n c4) ∧ w'.cell? ⟨W.heap.size, 0, none⟩ = some (.slice A n c))
    (first | ((go_split_ands; refine ⟨?_, ?_⟩ <;> exact (hb'.cell (p := ⟨_, _, none⟩) (by first | omega | (simp; omega) | simp)).trans (by assumption))) | go_keep)
    (first
      | (go_at_call 23; refine (TP.out _ (Ext.draw B1) hn').mono ?_; rintro e w7 ⟨A7, c7, rfl, own7, hb'⟩; have hb7 := hb'; have y7 : w6.heap.size ≤ w7.heap.size := hb'.size)
      | (go_at_call 24; refine (EX.out _ _ _ _ _ (Rd.of_own (own_ext (Ext.undraw hb') own4)) (Rd.of_own own7) hn').mono ?_; rintro e w8 ⟨rfl, hb'⟩))
  have hb68 : Below w6.heap.size w6 w8 := Ext.undraw (Ext.then_ hb7 hb')
  replace B1 := Ext.then_ B1 hb68
  replace T1 := T1.under hb68 T1.lt
  replace T4 := T4.under hb68 T4.lt
  replace T6 := T6.under hb68 T6.lt
  replace T7 := T7.under hb68 T7.lt
  replace own3 := own3.ext hb68
  replace own4 := own_ext hb68 own4
  replace own5 := own5.ext hb68
  clear k6 k1 z6' z1' own7 hb7 hb' y7 hb68
  have k6 := T6.cell 0
  simp at k6
  go_wp2_with fail
  -- the argument is marked
  refine (MX.out _ _ _ w8 own4 hn').mono ?_
  rintro e w9 ⟨rfl, own4', ch⟩
  have o1 : ∀ b, (∃ a, A4 = some a ∧ b = a.block) → V3.heap.size ≤ b ∧ b < w4.heap.size := by
    rintro b ⟨a, h, rfl⟩
    exact ⟨s4' a h, t6 a h⟩
  replace B1 := B1.trans (ch.below (fun k hk => by have := (o1 k hk).1; omega) (by have := T1.lt; omega))
  replace T1 := ch.blk T1 (fun h => by have := (o1 _ h).1; omega)
  replace T4 := ch.blk T4 (fun h => by have := (o1 _ h).1; omega)
  replace T7 := ch.blk T7 (fun h => by have := (o1 _ h).2; omega)
  replace own3 := own3.keep ch (fun b h1 h2 h => by have := (o1 b h).1; omega)
  replace own5 := own5.keep ch (fun b h1 h2 h => by have := (o1 b h).2; omega)
  clear T6 own4 own4' k6 ch
  have k7 := T7.cell 0
  have k4 := T4.cell 0
  simp at k7 k4
  have p0 : ¬ ((1 + n : Nat) : Int) < 0 := by omega
  go_wp2_with fail
  refine (ER.out _ _ _ _ w9 own5.rd own3.rd).mono ?_
  rintro e w10 ⟨rfl, hb⟩
  replace B1 := Ext.then_ B1 hb
  replace T1 := T1.under hb T1.lt
  replace T4 := T4.under hb T4.lt
  replace T7 := T7.under hb T7.lt
  replace own3 := own3.ext hb
  replace own5 := own5.ext hb
  clear k7 k4 hb
  have k7 := T7.cell 0
  simp at k7
  go_wp2_with fail
  -- the result is marked
  refine (MR.out _ _ _ _ _ w10 own5).mono ?_
  rintro e w11 ⟨rfl, own5', ch⟩
  replace B1 := B1.trans (ch.below (fun k hk => by have := hk.1; omega) (by have := T1.lt; omega))
  replace T1 := ch.blk T1 (fun h => by have := h.1; omega)
  replace T4 := ch.blk T4 (fun h => by have := h.1; omega)
  replace T7 := ch.blk T7 (fun h => by have := h.2; omega)
  replace own3 := own3.keep ch (fun b h1 h2 h => by have := h.1; omega)
  clear own5 k7 ch p0
  have k7 := T7.cell 0
  simp at k7
  go_wp2_with fail
  refine (HR.out _ _ w11 own5'.rd).mono ?_
  rintro e w12 ⟨rfl, hb⟩
  replace B1 := Ext.then_ B1 hb
  replace T1 := T1.under hb T1.lt
  replace T4 := T4.under hb T4.lt
  replace T7 := T7.under hb T7.lt
  replace own3 := own3.ext hb
  replace own5' := own5'.ext hb
  clear k7 hb
  have k1 := T1.cell 0
  simp at k1
  have p0 : ¬ ((1 + tt : Nat) : Int) < 0 := by omega
  have p1 : (((1 + tt : Nat) : Int) != ((1 + tt : Nat) : Int)) = false := by simp
  go_wp2_with fail
  -- another call
  refine (TP.out _ B1 hn').mono ?_
  rintro e w13 ⟨A13, c13, rfl, own13, hb⟩
  replace B1 := Ext.then_ B1 hb
  replace T1 := T1.under hb T1.lt
  replace T4 := T4.under hb T4.lt
  replace T7 := T7.under hb T7.lt
  replace own3 := own3.ext hb
  replace own5' := own5'.ext hb
  clear k1 hb
  go_wp2_with fail
  refine (IM.out _ _ _ (Rd.of_own own13) hn').mono ?_
  rintro e w14 ⟨A14, c14, vs14, rfl, own14, hb⟩
  replace B1 := Ext.more (Ext.then_ B1 hb) (.cells #[.slice A14 RR.length c14] 39)
  replace T4 := (T4.under hb T4.lt).more (.cells #[.slice A14 RR.length c14] 39)
  replace T7 := (T7.under hb T7.lt).more (.cells #[.slice A14 RR.length c14] 39)
  replace own3 := (own3.ext hb).ext (Ext.more (Ext.refl _) (.cells #[.slice A14 RR.length c14] 39))
  replace own5' := (own5'.ext hb).ext (Ext.more (Ext.refl _) (.cells #[.slice A14 RR.length c14] 39))
  replace own14 := own14.ext (Ext.more (Ext.refl _) (.cells #[.slice A14 RR.length c14] 39))
  clear T1 hb own13
  have k4 := T4.cell 0
  simp at k4
  go_wp2_with fail
  refine (ER.out _ _ _ _ _ own14.rd own3.rd).mono ?_
  rintro e w15 ⟨rfl, hb⟩
  replace B1 := Ext.then_ B1 hb
  replace T7 := T7.under hb T7.lt
  replace own5' := own5'.ext hb
  clear k4 hb own14 own3 T4
  have k7 := T7.cell 0
  simp at k7
  go_wp2_with fail
  refine (HR.out _ _ w15 own5'.rd).mono ?_
  rintro e w16 ⟨rfl, hb⟩
  replace B1 := Ext.then_ B1 hb
  go_wp2_with fail
  go_ret
  exact ⟨rfl, B1⟩
end Go.Proofs.Ytdbelajgndclfaa
