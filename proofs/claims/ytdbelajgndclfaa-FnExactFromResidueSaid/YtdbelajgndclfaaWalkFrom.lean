/- The law FnExactFromResidue, walked. -/
import Derived.Test.YtdbelajgndclfaaPicL
import Derived.Test.YtdbelajgndclfaaPic2
namespace Go.Proofs.Ytdbelajgndclfaa
open Go.RowKit

set_option maxRecDepth 100000 in
set_option maxHeartbeats 4000000 in
theorem walkFromResidue (W : World) (A : Option Addr) (c : Nat) (rows : List ByteArray) (hA : RdA W A (strs rows)) (hn : rows.length ≤ maxLen) (hsz : ∀ r ∈ rows, r.size ≤ maxLen) :
    Calls Try.prog 4 #[.agg #[.slice A rows.length c]] W fun e w' => e = .returned (.bool true) ∧ Below W.heap.size W w' := by
  have SZ := Lib.hid (fun V (hb : Below W.heap.size W V) => szPic_any A c rows 1048576 (by omega) V (hA.ext hb) hn hsz)
  have TP := Lib.hid (fun V (hb : Below W.heap.size W V) (hn' : rows.length ≤ 1048576) => toPic_any A c rows V (hA.ext hb) hn')
  have EX := Lib.hid (fun (A B : Option Addr) (c d : Nat) V (h1 : Rd V A (strs rows)) (h2 : Rd V B (strs rows)) (hn' : rows.length ≤ 1048576) => eqPic_any A B c d rows V h1 h2 (by omega))
  have MX := Lib.hid (fun (base : Nat) (A : Option Addr) (c : Nat) V (h1 : V.ownsRow base 9 1 (.slice A rows.length c) rows.length (strs rows)) (hn' : rows.length ≤ 1048576) => markPic_any base A c rows 1 (by omega) V h1 (by omega) (by omega))
  have IM := Lib.hid (fun (A : Option Addr) (c : Nat) V (h1 : Rd V A (strs rows)) (hn' : rows.length ≤ 1048576) => fromResidue_any A c rows V h1 (by omega))
  have SP := Lib.hid (fun (A : Option Addr) (c : Nat) V (h1 : Rd V A (strs rows)) (hn' : rows.length ≤ 1048576) => fromResidueS_any A c rows V h1 (by omega))
  have hRn : Hid (rows.length ≤ 1048576 → ((if picOk rows then rowsTo (frL (picBits rows) (picW rows) rows.length) (picW rows) rows.length else [])).length ≤ 1048576) := by
    intro h
    by_cases hp : picOk rows = true
    · rw [if_pos hp, rowsTo_length]; exact h
    · rw [if_neg hp]; simp
  clear hA hn hsz
  generalize (if picOk rows then rowsTo (frL (picBits rows) (picW rows) rows.length) (picW rows) rows.length else []) = RR at *
  generalize picOk rows = ok at *
  have ER := Lib.hid (fun (A B : Option Addr) (c d : Nat) V (h1 : Rd V A (strs RR)) (h2 : Rd V B (strs RR)) (hn' : RR.length ≤ 1048576) => eqPic_any A B c d RR V h1 h2 (by omega))
  have MR := Lib.hid (fun (base : Nat) (A : Option Addr) (c : Nat) V (h1 : V.ownsRow base 9 1 (.slice A RR.length c) RR.length (strs RR)) (hn' : RR.length ≤ 1048576) => markPic_any base A c RR 1 (by omega) V h1 (by omega) (by omega))
  have HR := Lib.hid (fun (A : Option Addr) (c : Nat) V (h1 : Rd V A (strs (markSs 1 RR.length))) (hn' : RR.length ≤ 1048576) => heldPic_any A c RR.length 1 (by omega) V h1 (by omega) (by omega))
  generalize rows.length = n at *
  have B1 : Below W.heap.size W (W.alloc (.cells #[.slice A n c] 32)) := Ext.more (Ext.refl _) _
  have T1 : Blk (W.alloc (.cells #[.slice A n c] 32)) W.heap.size 32 #[.slice A n c] := Blk.made _ _ _
  go_enter Try.func4, Try.ntmps4
  go_wp2_with fail
  refine (SZ.out _ B1).mono ?_
  rintro e w1 ⟨⟨r, rfl, hr⟩, hb⟩
  replace B1 := Ext.then_ B1 hb
  replace T1 := T1.under hb T1.lt
  clear hb
  by_cases h0 : r < 0
  · clear hr
    go_wp2_with fail
    go_ret
    exact ⟨rfl, B1⟩
  have hn' : n ≤ 1048576 := by omega
  have hm' : RR.length ≤ 1048576 := hRn.out hn'
  clear hr hRn SZ
  have k1 := T1.cell 0
  simp at k1
  go_wp2_with fail
  -- the reference's result
  refine (TP.out _ B1 hn').mono ?_
  rintro e w2 ⟨A2, c2, rfl, own2, hb2⟩
  replace B1 := Ext.then_ B1 hb2
  replace T1 := T1.under hb2 T1.lt
  clear k1 hb2
  go_wp2_with fail
  refine (SP.out _ _ _ (Rd.of_own own2) hn').mono ?_
  rintro e w3 ⟨A3, c3, rfl, own3, hb3⟩
  replace B1 := Ext.more (Ext.then_ B1 hb3) (.cells #[.slice A3 RR.length c3] 26)
  replace T1 := (T1.under hb3 T1.lt).more (.cells #[.slice A3 RR.length c3] 26)
  have T4 := Blk.made w3 26 #[.slice A3 RR.length c3]
  replace own3 := own3.alloc (.cells #[.slice A3 RR.length c3] 26)
  clear own2 hb3
  have k1 := T1.cell 0
  simp at k1
  go_wp2_with fail
  generalize hV3 : w3.alloc (.cells #[.slice A3 RR.length c3] 26) = V3 at *
  have z4 := T4.lt
  have z1 := T1.lt
  -- the argument handed to the program
  refine (TP.out _ B1 hn').mono ?_
  rintro e w4 ⟨A4, c4, rfl, own4, hb4⟩
  have s4 : ∀ a, A3 = some a → a.block < V3.heap.size := fun a h => by subst h; exact (own3.lt a.block rfl).2
  have s4' : ∀ a, A4 = some a → V3.heap.size ≤ a.block := fun a h => by subst h; exact (own4.lt a.block rfl).1
  replace B1 := Ext.more (Ext.then_ B1 hb4) (.cells #[.slice A4 n c4] 26)
  replace T1 := (T1.under hb4 T1.lt).more (.cells #[.slice A4 n c4] 26)
  replace T4 := (T4.under hb4 T4.lt).more (.cells #[.slice A4 n c4] 26)
  replace own3 := (own_ext hb4 own3).alloc (.cells #[.slice A4 n c4] 26)
  have T6 := Blk.made w4 26 #[.slice A4 n c4]
  have t6 : ∀ a, A4 = some a → a.block < w4.heap.size := fun a h => by subst h; exact (own4.lt a.block rfl).2
  replace own4 := own4.alloc (.cells #[.slice A4 n c4] 26)
  have y4 := hb4.size
  clear k1 hb4
  have k6 := T6.cell 0
  simp at k6
  go_wp2_with fail
  generalize hV4 : w4.alloc (.cells #[.slice A4 n c4] 26) = V4 at *
  have z6 := T6.lt
  refine (IM.out _ _ _ (Rd.of_own own4) hn').mono ?_
  rintro e w5 ⟨A5, c5, rfl, own5, hb5⟩
  have s5' : ∀ a, A5 = some a → V4.heap.size ≤ a.block := fun a h => by subst h; exact (own5.lt a.block rfl).1
  have t5 : ∀ a, A5 = some a → a.block < w5.heap.size := fun a h => by subst h; exact (own5.lt a.block rfl).2
  have hz5 := hb5.size
  replace B1 := Ext.more (Ext.then_ B1 hb5) (.cells #[.slice A5 RR.length c5] 26)
  replace T1 := (T1.under hb5 T1.lt).more (.cells #[.slice A5 RR.length c5] 26)
  replace T4 := (T4.under hb5 T4.lt).more (.cells #[.slice A5 RR.length c5] 26)
  replace T6 := (T6.under hb5 T6.lt).more (.cells #[.slice A5 RR.length c5] 26)
  replace own3 := (own_ext hb5 own3).alloc (.cells #[.slice A5 RR.length c5] 26)
  replace own4 := (own_ext hb5 own4).alloc (.cells #[.slice A5 RR.length c5] 26)
  have T7 := Blk.made w5 26 #[.slice A5 RR.length c5]
  replace own5 := own5.alloc (.cells #[.slice A5 RR.length c5] 26)
  clear k6 hb5
  have k7 := T7.cell 0
  have k4 := T4.cell 0
  simp at k7 k4
  go_wp2_with fail
  generalize w5.alloc (.cells #[.slice A5 RR.length c5] 26) = V5 at *
  refine (ER.out _ _ _ _ V5 (Rd.of_own own5) (Rd.of_own own3) hm').mono ?_
  rintro e w6 ⟨rfl, hb6⟩
  replace B1 := Ext.then_ B1 hb6
  replace T1 := T1.under hb6 T1.lt
  replace T4 := T4.under hb6 T4.lt
  replace T6 := T6.under hb6 T6.lt
  replace T7 := T7.under hb6 T7.lt
  replace own3 := own_ext hb6 own3
  replace own4 := own_ext hb6 own4
  replace own5 := own_ext hb6 own5
  clear k7 k4 hb6
  have q0 : (ok != ok) = false := by simp
  go_wp2_with fail
  -- the argument is as it was
  have k6 := T6.cell 0
  have k1 := T1.cell 0
  simp at k6 k1
  have z6' := T6.lt
  have z1' := T1.lt
  go_region_held3 (fun w' => w'.cell? ⟨w4.heap.size, 0, none⟩ = some (.slice A4 n c4) ∧ w'.cell? ⟨W.heap.size, 0, none⟩ = some (.slice A n c))
    (first | ((go_split_ands; refine ⟨?_, ?_⟩ <;> exact (hb'.cell (p := ⟨_, _, none⟩) (by first | omega | (simp; omega) | simp)).trans (by assumption))) | go_keep)
    (first
      | (go_at_call 23; refine (TP.out _ (Ext.draw B1) hn').mono ?_; rintro e w7 ⟨A7, c7, rfl, own7, hb'⟩; have hb7 := hb'; have y7 : w6.heap.size ≤ w7.heap.size := hb'.size)
      | (go_at_call 24; refine (EX.out _ _ _ _ _ (Rd.of_own (own_ext (Ext.undraw hb') own4)) (Rd.of_own own7) hn').mono ?_; rintro e w8 ⟨rfl, hb'⟩))
  have hb68 : Below w6.heap.size w6 w8 := Ext.undraw (Ext.then_ hb7 hb')
  replace B1 := Ext.then_ B1 hb68
  replace T1 := T1.under hb68 T1.lt
  replace T4 := T4.under hb68 T4.lt
  replace T6 := T6.under hb68 T6.lt
  replace T7 := T7.under hb68 T7.lt
  replace own3 := own_ext hb68 own3
  replace own4 := own_ext hb68 own4
  replace own5 := own_ext hb68 own5
  clear k6 k1 z6' z1' own7 hb7 hb' y7 hb68
  have k6 := T6.cell 0
  simp at k6
  go_wp2_with fail
  -- the argument is marked
  refine (MX.out _ _ _ w8 own4 hn').mono ?_
  rintro e w9 ⟨rfl, own4', ch⟩
  have n4 : ∀ a a', A3 = some a → A4 = some a' → a.block ≠ a'.block := fun a a' h h' => by have := s4 a h; have := s4' a' h'; omega
  have n5 : ∀ a a', A5 = some a → A4 = some a' → a.block ≠ a'.block := fun a a' h h' => by have := s5' a h; have := t6 a' h'; omega
  have o1 : ∀ b, (∃ a, A4 = some a ∧ b = a.block) → V3.heap.size ≤ b ∧ b < w4.heap.size := by
    rintro b ⟨a, h, rfl⟩
    exact ⟨s4' a h, t6 a h⟩
  replace B1 := B1.trans (ch.below (fun k hk => by have := (o1 k hk).1; omega) (by have := T1.lt; omega))
  replace T1 := ch.blk T1 (fun h => by have := (o1 _ h).1; omega)
  replace T4 := ch.blk T4 (fun h => by have := (o1 _ h).1; omega)
  replace T7 := ch.blk T7 (fun h => by have := (o1 _ h).2; omega)
  replace own3 := ch.rd own3 n4
  replace own5 := ch.rd own5 n5
  clear T6 own4 own4' k6 ch
  have k7 := T7.cell 0
  have k4 := T4.cell 0
  simp at k7 k4
  have p0 : ¬ ((1 + n : Nat) : Int) < 0 := by omega
  go_wp2_with fail
  refine (ER.out _ _ _ _ w9 (Rd.of_own own5) (Rd.of_own own3) hm').mono ?_
  rintro e w10 ⟨rfl, hb⟩
  replace B1 := Ext.then_ B1 hb
  replace T1 := T1.under hb T1.lt
  replace T4 := T4.under hb T4.lt
  replace T7 := T7.under hb T7.lt
  replace own3 := own_ext hb own3
  replace own5 := own_ext hb own5
  clear k7 k4 hb
  have k7 := T7.cell 0
  simp at k7
  go_wp2_with fail
  -- the result is marked
  refine (MR.out _ _ _ w10 own5 hm').mono ?_
  rintro e w11 ⟨rfl, own5', ch⟩
  have n3 : ∀ a a', A3 = some a → A5 = some a' → a.block ≠ a'.block := fun a a' h h' => by have := s4 a h; have := s5' a' h'; omega
  have o5 : ∀ b, (∃ a, A5 = some a ∧ b = a.block) → V4.heap.size ≤ b ∧ b < w5.heap.size := by
    rintro b ⟨a, h, rfl⟩
    exact ⟨s5' a h, t5 a h⟩
  replace B1 := B1.trans (ch.below (fun k hk => by have := (o5 k hk).1; omega) (by have := T1.lt; omega))
  replace T1 := ch.blk T1 (fun h => by have := (o5 _ h).1; omega)
  replace T4 := ch.blk T4 (fun h => by have := (o5 _ h).1; omega)
  replace T7 := ch.blk T7 (fun h => by have := (o5 _ h).2; omega)
  replace own3 := ch.rd own3 n3
  clear own5 k7 ch p0
  have k7 := T7.cell 0
  simp at k7
  go_wp2_with fail
  refine (HR.out _ _ w11 (Rd.of_own own5') hm').mono ?_
  rintro e w12 ⟨rfl, hb⟩
  replace B1 := Ext.then_ B1 hb
  replace T1 := T1.under hb T1.lt
  replace T4 := T4.under hb T4.lt
  replace T7 := T7.under hb T7.lt
  replace own3 := own_ext hb own3
  replace own5' := own_ext hb own5'
  clear k7 hb
  have k1 := T1.cell 0
  simp at k1
  have p0 : ¬ ((1 + RR.length : Nat) : Int) < 0 := by omega
  have p1 : (((1 + RR.length : Nat) : Int) != ((1 + RR.length : Nat) : Int)) = false := by simp
  go_wp2_with fail
  -- another call
  refine (TP.out _ B1 hn').mono ?_
  rintro e w13 ⟨A13, c13, rfl, own13, hb⟩
  replace B1 := Ext.then_ B1 hb
  replace T1 := T1.under hb T1.lt
  replace T4 := T4.under hb T4.lt
  replace T7 := T7.under hb T7.lt
  replace own3 := own_ext hb own3
  replace own5' := own_ext hb own5'
  clear k1 hb
  go_wp2_with fail
  refine (IM.out _ _ _ (Rd.of_own own13) hn').mono ?_
  rintro e w14 ⟨A14, c14, rfl, own14, hb⟩
  replace B1 := Ext.more (Ext.then_ B1 hb) (.cells #[.slice A14 RR.length c14] 26)
  replace T4 := (T4.under hb T4.lt).more (.cells #[.slice A14 RR.length c14] 26)
  replace T7 := (T7.under hb T7.lt).more (.cells #[.slice A14 RR.length c14] 26)
  replace own3 := (own_ext hb own3).alloc (.cells #[.slice A14 RR.length c14] 26)
  replace own5' := (own_ext hb own5').alloc (.cells #[.slice A14 RR.length c14] 26)
  replace own14 := own14.alloc (.cells #[.slice A14 RR.length c14] 26)
  clear T1 hb own13
  have k4 := T4.cell 0
  simp at k4
  go_wp2_with fail
  refine (ER.out _ _ _ _ _ (Rd.of_own own14) (Rd.of_own own3) hm').mono ?_
  rintro e w15 ⟨rfl, hb⟩
  replace B1 := Ext.then_ B1 hb
  replace T7 := T7.under hb T7.lt
  replace own5' := own_ext hb own5'
  clear k4 hb own14 own3 T4
  have k7 := T7.cell 0
  simp at k7
  go_wp2_with fail
  refine (HR.out _ _ w15 (Rd.of_own own5') hm').mono ?_
  rintro e w16 ⟨rfl, hb⟩
  replace B1 := Ext.then_ B1 hb
  go_wp2_with fail
  go_ret
  exact ⟨rfl, B1⟩
end Go.Proofs.Ytdbelajgndclfaa
