/- The laws FnExactIntervalsOfSize, FnExactNextInBox, FnExactIntervalsOf, walked. -/
import Derived.Test.YtbkgmegpgnmlpaaIvl
import Derived.Test.YtbkgmegpgnmlpaaOpenS
namespace Go.Proofs.Ytbkgmegpgnmlpaa
open Go.RowKit

set_option maxHeartbeats 400000 in
theorem lawIsz_any (c o W H : Int) (w : World) :
    Calls Try.prog 6 #[.int .i64 c, .int .i64 o, .int .i64 W, .int .i64 H] w fun e w' => e = .returned (.bool true) ∧ Below w.heap.size w w' := by
  have C1 := Lib.hid (fun V => iszS_any c o W H V)
  have C2 := Lib.hid (fun V => iszI_any c o W H V)
  generalize isz c o W H = p at C1 C2
  generalize iszOk c o W H = b at C1 C2
  have t1 : (p != p) = false := by simp
  have t2 : (b != b) = false := by simp
  go_enter Try.func6, Try.ntmps6
  go_wp2_with fail
  refine (C1.out _).mono ?_
  rintro e w1 ⟨rfl, hb1⟩
  go_wp2_with fail
  refine (C2.out _).mono ?_
  rintro e w2 ⟨rfl, hb2⟩
  go_wp2_with fail
  go_ret
  exact ⟨rfl, Ext.then_ hb1 hb2⟩
set_option maxRecDepth 100000 in
set_option maxHeartbeats 1000000 in
theorem lawNext_any (c o fx fy tx ty i : Int) (w : World) :
    Calls Try.prog 7 #[.int .i64 c, .int .i64 o, .agg #[.int .i64 fx, .int .i64 fy], .agg #[.int .i64 tx, .int .i64 ty], .int .i64 i] w fun e w' => e = .returned (.bool true) ∧ Below w.heap.size w w' := by
  obtain ⟨wB, hwB⟩ : ∃ wB, (w.alloc (.cells #[.int .i64 fx, .int .i64 fy] 38)).alloc (.cells #[.int .i64 tx, .int .i64 ty] 38) = wB := ⟨_, rfl⟩
  have T1 : Blk wB w.heap.size 38 #[.int .i64 fx, .int .i64 fy] := by rw [← hwB]; exact (Blk.made w _ _).more _
  have T2 : Blk wB (w.heap.size + 1) 38 #[.int .i64 tx, .int .i64 ty] := by
    have := Blk.made (w.alloc (.cells #[.int .i64 fx, .int .i64 fy] 38)) 38 #[.int .i64 tx, .int .i64 ty]
    rw [hwB] at this; simpa using this
  have B1 : Below w.heap.size w wB := by rw [← hwB]; exact Ext.more (Ext.more (Ext.refl _) _) _
  have z2 : wB.heap.size = w.heap.size + 2 := by rw [← hwB]; simp
  have C1 := Lib.hid (fun V => nextInBoxS_any c o fx fy tx ty i V)
  have C2 := Lib.hid (fun V => nextInBox_any c o fx fy tx ty i V)
  have TF := Lib.hid (fun V => toSpot_any fx fy V)
  have TT := Lib.hid (fun V => toSpot_any tx ty V)
  generalize (nxV c o (fx, fy) (tx, ty) i).1 = p at C1 C2
  generalize (nxV c o (fx, fy) (tx, ty) i).2 = b at C1 C2
  have t1 : (p != p) = false := by simp
  have t2 : (b != b) = false := by simp
  have k2 := T1.cell 0
  have k3 := T1.cell 1
  have k4 := T2.cell 0
  have k5 := T2.cell 1
  simp at k2 k3 k4 k5
  have l2 := T1.lt
  have l3 := T2.lt
  have zB : w.heap.size ≤ wB.heap.size := B1.size
  go_enter Try.func7, Try.ntmps7
  go_wp2_with fail
  try simp only [hwB]
  go_region_held3 (fun w' => w'.cell? ⟨w.heap.size, 0, none⟩ = some (.int .i64 fx) ∧ w'.cell? ⟨w.heap.size, 1, none⟩ = some (.int .i64 fy) ∧ w'.cell? ⟨w.heap.size + 1, 0, none⟩ = some (.int .i64 tx) ∧ w'.cell? ⟨w.heap.size + 1, 1, none⟩ = some (.int .i64 ty))
    (first | ((go_split_ands; refine ⟨?_, ?_, ?_, ?_⟩ <;> exact (hb'.cell (p := ⟨_, _, none⟩) (by first | omega | (simp; omega) | simp)).trans (by assumption))) | go_keep)
    (first
      | (go_at_call_of 26 (Value.agg #[Value.int .i64 fx, Value.int .i64 fy]); refine (TF.out _).mono ?_; rintro e w2 ⟨rfl, hb'⟩; have hs2 := hb'; have z2 : wB.heap.size ≤ w2.heap.size := hb'.size)
      | (go_at_call_of 26 (Value.agg #[Value.int .i64 tx, Value.int .i64 ty]); refine (TT.out _).mono ?_; rintro e w3 ⟨rfl, hb'⟩; have hs3 := hb'; have z3 : w2.heap.size ≤ w3.heap.size := hb'.size)
      | (go_at_call 25; refine (C1.out _).mono ?_; rintro e w4 ⟨rfl, hb⟩; have hb' := hb))
  have hb4 := Ext.undraw (Ext.then_ hs2 (Ext.then_ hs3 hb))
  have z4 : w3.heap.size ≤ w4.heap.size := hb.size
  clear hs2 hs3 hb hb' k2 k3 k4 k5
  have S1 := T1.under hb4 l2
  have S2 := T2.under hb4 l3
  have k2 := S1.cell 0
  have k3 := S1.cell 1
  have k4 := S2.cell 0
  have k5 := S2.cell 1
  simp at k2 k3 k4 k5
  have m2 := S1.lt
  have m3 := S2.lt
  go_wp2_with fail
  go_region_held3 (fun w' => w'.cell? ⟨w.heap.size, 0, none⟩ = some (.int .i64 fx) ∧ w'.cell? ⟨w.heap.size, 1, none⟩ = some (.int .i64 fy) ∧ w'.cell? ⟨w.heap.size + 1, 0, none⟩ = some (.int .i64 tx) ∧ w'.cell? ⟨w.heap.size + 1, 1, none⟩ = some (.int .i64 ty))
    (first | ((go_split_ands; refine ⟨?_, ?_, ?_, ?_⟩ <;> exact (hb'.cell (p := ⟨_, _, none⟩) (by first | omega | (simp; omega) | simp)).trans (by assumption))) | go_keep)
    (first
      | (go_at_call_of 26 (Value.agg #[Value.int .i64 fx, Value.int .i64 fy]); refine (TF.out _).mono ?_; rintro e w5 ⟨rfl, hb'⟩; have hs5 := hb'; have z5 : w4.heap.size ≤ w5.heap.size := hb'.size)
      | (go_at_call_of 26 (Value.agg #[Value.int .i64 tx, Value.int .i64 ty]); refine (TT.out _).mono ?_; rintro e w6 ⟨rfl, hb'⟩; have hs6 := hb'; have z6 : w5.heap.size ≤ w6.heap.size := hb'.size)
      | (go_at_call 27; refine (C2.out _).mono ?_; rintro e w7 ⟨rfl, hb⟩; have hb' := hb))
  have hb7 := Ext.undraw (Ext.then_ hs5 (Ext.then_ hs6 hb))
  have z7 : w6.heap.size ≤ w7.heap.size := hb.size
  clear hs5 hs6 hb hb' k2 k3 k4 k5
  go_wp2_with fail
  go_ret
  exact ⟨rfl, Ext.then_ B1 (Ext.then_ hb4 hb7)⟩
/-- A call has returned rows of memory of its own. -/
def RowsRes (w : World) (R : List (List Int)) (ok : Bool) (e : Ending) (w' : World) : Prop :=
  ∃ A c vs, e = .returned (.tuple #[.slice A R.length c, .bool ok]) ∧ MatAt w' w.heap.size w'.heap.size A c vs R ∧ Below w.heap.size w w'
theorem IvRes.rows {w : World} {P : List (Int × Int)} {ok : Bool} {e : Ending} {w' : World} (h : IvRes w P ok e w') : RowsRes w (prR P) ok e w' := by
  obtain ⟨A, c, vs, he, hM, hb⟩ := h
  exact ⟨A, c, vs, by rw [prR_len]; exact he, hM, hb⟩
theorem prR_tot (P : List (Int × Int)) : tot (prR P) (prR P).length = 2 * P.length := by
  rw [tot, List.take_length]
  induction P with
  | nil => rfl
  | cons p r ih => rw [show prR (p :: r) = [p.1, p.2] :: prR r from rfl, List.map_cons, List.sum_cons, ih, List.length_cons]; simp; omega
theorem prR_row {P : List (Int × Int)} (i : Nat) (h : i < (prR P).length) : ((prR P)[i]'h).length = 2 := by
  rw [prR_at (by rw [prR_len] at h; exact h)]; rfl
theorem ivP_le (c o : Int) (f t : Int × Int) : (ivP c o f t).length ≤ 1000 := by
  unfold ivP
  split
  · rename_i h
    simp only [ivOk, Bool.and_eq_true] at h
    obtain ⟨_, h0, h4⟩ := curveOk_iff.1 h.1
    have h1 := side_le h0 h4
    have h2 := side_pos h0 h4
    have : (side o).toNat ≤ 16 := by omega
    exact Nat.le_trans (spTo_le _ _ _ _) (Nat.le_trans (Nat.mul_le_mul this this) (by decide))
  · simp
set_option maxRecDepth 100000 in
set_option maxHeartbeats 2000000 in
theorem lawIv_any (c o fx fy tx ty : Int) (w : World) :
    Calls Try.prog 8 #[.int .i64 c, .int .i64 o, .agg #[.int .i64 fx, .int .i64 fy], .agg #[.int .i64 tx, .int .i64 ty]] w fun e w' => e = .returned (.bool true) ∧ Below w.heap.size w w' := by
  obtain ⟨wB, hwB⟩ : ∃ wB, (w.alloc (.cells #[.int .i64 fx, .int .i64 fy] 38)).alloc (.cells #[.int .i64 tx, .int .i64 ty] 38) = wB := ⟨_, rfl⟩
  have T1 : Blk wB w.heap.size 38 #[.int .i64 fx, .int .i64 fy] := by rw [← hwB]; exact (Blk.made w _ _).more _
  have T2 : Blk wB (w.heap.size + 1) 38 #[.int .i64 tx, .int .i64 ty] := by
    have := Blk.made (w.alloc (.cells #[.int .i64 fx, .int .i64 fy] 38)) 38 #[.int .i64 tx, .int .i64 ty]
    rw [hwB] at this; simpa using this
  have B1 : Below w.heap.size w wB := by rw [← hwB]; exact Ext.more (Ext.more (Ext.refl _) _) _
  have z2 : wB.heap.size = w.heap.size + 2 := by rw [← hwB]; simp
  have C1 := Lib.hid (fun V => (intervalsOfS_any c o fx fy tx ty V).mono fun _ _ h => h.rows)
  have C2 := Lib.hid (fun V => (intervalsOf_any c o fx fy tx ty V).mono fun _ _ h => h.rows)
  have TF := Lib.hid (fun V => toSpot_any fx fy V)
  have TT := Lib.hid (fun V => toSpot_any tx ty V)
  have h1 := ivP_le c o (fx, fy) (tx, ty)
  generalize ivP c o (fx, fy) (tx, ty) = P at *
  generalize ivOk c o (fx, fy) (tx, ty) = b at *
  have h3 := prR_len P
  rw [← h3] at h1
  have h2 : tot (prR P) (prR P).length ≤ 2000 := by rw [prR_tot]; omega
  clear h3
  have h4 : ∀ i (h : i < (prR P).length), ((prR P)[i]'h).length ≤ 1000000000 := fun i h => by rw [prR_row]; decide
  generalize prR P = R at *
  have ER := Lib.hid (fun (A B : Option Addr) (c d : Nat) V (x1 : MatRd V A R) (x2 : MatRd V B R) => eqMat_any A B c d R V x1 x2 (by omega) h4)
  have MR := Lib.hid (fun (lo hi : Nat) (A : Option Addr) (c : Nat) (vs : List Value) V (x1 : MatAt V lo hi A c vs R) => markMat_any lo hi A c vs R 1 V x1 (by omega) (by omega) (by omega))
  have HR := Lib.hid (fun (A : Option Addr) (c : Nat) V (x1 : MatRd V A (mkRows 1 R R.length)) => heldMat_any A c R 1 V x1 (by omega) (by omega) (by omega))
  generalize mkRows 1 R R.length = K at *
  obtain ⟨m, hm⟩ : ∃ m, tot R R.length = m := ⟨_, rfl⟩
  rw [hm] at MR HR h2
  clear hm
  clear h1 h2 h4
  have p0 : ¬ ((1 + m : Nat) : Int) < 0 := by omega
  have p1 : (((1 + m : Nat) : Int) != ((1 + m : Nat) : Int)) = false := by simp
  have t2 : (b != b) = false := by simp
  have k2 := T1.cell 0
  have k3 := T1.cell 1
  have k4 := T2.cell 0
  have k5 := T2.cell 1
  simp at k2 k3 k4 k5
  have l2 := T1.lt
  have l3 := T2.lt
  have zB : w.heap.size ≤ wB.heap.size := B1.size
  go_enter Try.func8, Try.ntmps8
  go_wp2_with fail
  try simp only [hwB]
  go_region_held3 (fun w' => w'.cell? ⟨w.heap.size, 0, none⟩ = some (.int .i64 fx) ∧ w'.cell? ⟨w.heap.size, 1, none⟩ = some (.int .i64 fy) ∧ w'.cell? ⟨w.heap.size + 1, 0, none⟩ = some (.int .i64 tx) ∧ w'.cell? ⟨w.heap.size + 1, 1, none⟩ = some (.int .i64 ty))
    (first | ((go_split_ands; refine ⟨?_, ?_, ?_, ?_⟩ <;> exact (hb'.cell (p := ⟨_, _, none⟩) (by first | omega | (simp; omega) | simp)).trans (by assumption))) | go_keep)
    (first
      | (go_at_call_of 26 (Value.agg #[Value.int .i64 fx, Value.int .i64 fy]); refine (TF.out _).mono ?_; rintro e w2 ⟨rfl, hb'⟩; have hs2 := hb'; have z2 : wB.heap.size ≤ w2.heap.size := hb'.size)
      | (go_at_call_of 26 (Value.agg #[Value.int .i64 tx, Value.int .i64 ty]); refine (TT.out _).mono ?_; rintro e w3 ⟨rfl, hb'⟩; have hs3 := hb'; have z3 : w2.heap.size ≤ w3.heap.size := hb'.size)
      | (go_at_call 28; refine (C1.out _).mono ?_; rintro e w4 ⟨A0, c0, vs0, rfl, M0, hb⟩; have hb' := hb))
  have hb4 := Ext.undraw (Ext.then_ hs2 (Ext.then_ hs3 hb))
  have z4 : w3.heap.size ≤ w4.heap.size := hb.size
  clear hs2 hs3 hb hb' k2 k3 k4 k5
  replace B1 := Ext.then_ B1 hb4
  replace T1 := T1.under hb4 T1.lt
  replace T2 := T2.under hb4 T2.lt
  clear hb4 l2 l3

  have k2 := T1.cell 0
  have k3 := T1.cell 1
  have k4 := T2.cell 0
  have k5 := T2.cell 1
  simp at k2 k3 k4 k5
  have l2 := T1.lt
  have l3 := T2.lt
  go_wp2_with fail
  go_region_held3 (fun w' => w'.cell? ⟨w.heap.size, 0, none⟩ = some (.int .i64 fx) ∧ w'.cell? ⟨w.heap.size, 1, none⟩ = some (.int .i64 fy) ∧ w'.cell? ⟨w.heap.size + 1, 0, none⟩ = some (.int .i64 tx) ∧ w'.cell? ⟨w.heap.size + 1, 1, none⟩ = some (.int .i64 ty))
    (first | ((go_split_ands; refine ⟨?_, ?_, ?_, ?_⟩ <;> exact (hb'.cell (p := ⟨_, _, none⟩) (by first | omega | (simp; omega) | simp)).trans (by assumption))) | go_keep)
    (first
      | (go_at_call_of 26 (Value.agg #[Value.int .i64 fx, Value.int .i64 fy]); refine (TF.out _).mono ?_; rintro e w5 ⟨rfl, hb'⟩; have hs5 := hb'; have z5 : w4.heap.size ≤ w5.heap.size := hb'.size)
      | (go_at_call_of 26 (Value.agg #[Value.int .i64 tx, Value.int .i64 ty]); refine (TT.out _).mono ?_; rintro e w6 ⟨rfl, hb'⟩; have hs6 := hb'; have z6 : w5.heap.size ≤ w6.heap.size := hb'.size)
      | (go_at_call 29; refine (C2.out _).mono ?_; rintro e w7 ⟨A1, c1, vs1, rfl, M1, hb⟩; have hb' := hb))
  have hb7 := Ext.undraw (Ext.then_ hs5 (Ext.then_ hs6 hb))
  have z7 : w6.heap.size ≤ w7.heap.size := hb.size
  clear hs5 hs6 hb hb' k2 k3 k4 k5
  replace B1 := Ext.then_ B1 hb7
  replace T1 := T1.under hb7 T1.lt
  replace T2 := T2.under hb7 T2.lt
  replace M0 := M0.ext hb7
  clear hb7 l2 l3
  go_wp2_with fail
  refine (ER.out _ _ _ _ _ M1.rd M0.rd).mono ?_
  rintro e w8 ⟨rfl, q8, rfl⟩
  go_wp2_with fail
  refine (MR.out _ _ _ _ _ _ (M1.ext (Ext.drawN (Ext.refl _) q8))).mono ?_
  rintro e w9 ⟨rfl, om, ch⟩
  have z9 : w7.heap.size ≤ w9.heap.size := ch.size
  have zw := B1.size
  replace B1 := (Ext.drawN B1 q8).trans (ch.below (fun k hk => by have := hk.1; omega) zw)
  replace T1 := ch.blk T1 (fun h => by have := h.1; have := h.2; omega)
  replace T2 := ch.blk T2 (fun h => by have := h.1; have := h.2; omega)
  replace M0 := (M0.ext (Ext.drawN (Ext.refl _) q8)).keep ch (fun b h1 h2 h => by have := h.1; have := h.2; omega)
  clear ch M1
  go_wp2_with fail
  refine (HR.out _ _ _ om.rd).mono ?_
  rintro e w10 ⟨rfl, rfl⟩
  have k2 := T1.cell 0
  have k3 := T1.cell 1
  have k4 := T2.cell 0
  have k5 := T2.cell 1
  simp at k2 k3 k4 k5
  have l2 := T1.lt
  have l3 := T2.lt
  go_wp2_with fail
  go_region_held3 (fun w' => w'.cell? ⟨w.heap.size, 0, none⟩ = some (.int .i64 fx) ∧ w'.cell? ⟨w.heap.size, 1, none⟩ = some (.int .i64 fy) ∧ w'.cell? ⟨w.heap.size + 1, 0, none⟩ = some (.int .i64 tx) ∧ w'.cell? ⟨w.heap.size + 1, 1, none⟩ = some (.int .i64 ty))
    (first | ((go_split_ands; refine ⟨?_, ?_, ?_, ?_⟩ <;> exact (hb'.cell (p := ⟨_, _, none⟩) (by first | omega | (simp; omega) | simp)).trans (by assumption))) | go_keep)
    (first
      | (go_at_call_of 26 (Value.agg #[Value.int .i64 fx, Value.int .i64 fy]); refine (TF.out _).mono ?_; rintro e w11 ⟨rfl, hb'⟩; have hs11 := hb'; have z11 : w9.heap.size ≤ w11.heap.size := hb'.size)
      | (go_at_call_of 26 (Value.agg #[Value.int .i64 tx, Value.int .i64 ty]); refine (TT.out _).mono ?_; rintro e w12 ⟨rfl, hb'⟩; have hs12 := hb'; have z12 : w11.heap.size ≤ w12.heap.size := hb'.size)
      | (go_at_call 29; refine (C2.out _).mono ?_; rintro e w13 ⟨A2, c2, vs2, rfl, M2, hb⟩; have hb' := hb))
  have hb13 := Ext.undraw (Ext.then_ hs11 (Ext.then_ hs12 hb))
  have z13 : w12.heap.size ≤ w13.heap.size := hb.size
  clear hs11 hs12 hb hb' k2 k3 k4 k5
  replace B1 := Ext.then_ B1 hb13
  replace M0 := M0.ext hb13
  replace om := om.ext hb13
  go_wp2_with fail
  refine (ER.out _ _ _ _ _ M2.rd M0.rd).mono ?_
  rintro e w14 ⟨rfl, q14, rfl⟩
  go_wp2_with fail
  refine (HR.out _ _ _ (om.ext (Ext.drawN (Ext.refl _) q14)).rd).mono ?_
  rintro e w15 ⟨rfl, rfl⟩
  go_wp2_with fail
  go_ret
  exact ⟨rfl, Ext.drawN B1 q14⟩
end Go.Proofs.Ytbkgmegpgnmlpaa
