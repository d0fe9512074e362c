/- Trees of squares: the reference's PackTree. -/
import Derived.Test.YtogefmkplkddoaaTrO
namespace Go.Proofs.Ytogefmkplkddoaa
open Go.RowKit

set_option maxRecDepth 100000 in
set_option maxHeartbeats 2000000 in
theorem packTreeS_any (s : Int) (t : ByteArray) (w : World) (ht : t.size ≤ 1048576) :
    Calls Try.prog 11 #[.agg #[.int .i64 s, .string t]] w fun e w' => e = .returned (.tuple #[.string (ptV s t), .bool (ptB s t)]) ∧ Below w.heap.size w w' := by
  obtain ⟨w1, hw1⟩ : ∃ w1, w.alloc (.cells #[.int .i64 s, .string t] 29) = w1 := ⟨_, rfl⟩
  have T1 : Blk w1 w.heap.size 29 #[.int .i64 s, .string t] := by rw [← hw1]; exact Blk.made _ _ _
  have B1 : Below w.heap.size w w1 := by rw [← hw1]; exact Ext.more (Ext.refl _) _
  have HW := Lib.hid hw1
  have OP := Lib.hid (open_any w.heap.size s t w1 ht T1)
  have z1 := T1.lt
  clear hw1
  go_enter Try.func11, Try.ntmps11
  go_wp2_with fail
  try simp only [HW.out]
  refine OP.out.mono ?_
  rintro e w2 ⟨A, k, c, rfl, hb2, hm⟩
  have T2 := T1.under hb2 T1.lt
  have B2 := Ext.then_ B1 hb2
  obtain ⟨w3, hw3⟩ : ∃ w3, w2.alloc (.cells #[.slice A k c] 41) = w3 := ⟨_, rfl⟩
  have HW3 := Lib.hid hw3
  have T3 : Blk w3 w.heap.size 29 #[.int .i64 s, .string t] := by rw [← hw3]; exact T2.more _
  have P3 : Blk w3 w2.heap.size 41 #[.slice A k c] := by rw [← hw3]; exact Blk.made _ _ _
  have B3 : Below w.heap.size w w3 := by rw [← hw3]; exact Ext.more B2 _
  have c0 := T3.cell 0
  simp at c0
  cases hT : trO s t with
  | none =>
    have F := Lib.hid (pt_no hT)
    have hb := F.out.1
    clear hm hT OP T1 T2
    rw [hb]
    go_wp2_with fail
    go_ret2
    exact ⟨by rw [F.out.2, F.out.1]; rfl, by first | exact B3 | exact B2 | (rw [HW3.out]; exact B3)⟩
  | some T =>
    have F := Lib.hid (pt_yes hT)
    obtain ⟨S, L, hsS, hS, hk, hL, hR, hp⟩ := hm T hT
    have hb := F.out.1
    obtain ⟨f1, f2, f3, f4⟩ := trO_facts hT
    have hn4 := (sdB_iff f1).1
    have h16 : S ≤ 16 := by rw [hS]; exact Nat.le_trans (Nat.pow_le_pow_right (by decide) hn4) (by decide)
    have h0 : 0 < S := by rw [hS]; exact Nat.pow_pos (by decide)
    have PA : PicAt w3 w2.heap.size A c (rowsTo L S S) := ⟨P3.lt, by rw [rowsTo_length, ← hk]; simpa using P3.cell 0, by
      rw [← hw3]; exact hR.ext (Ext.more (Ext.refl w2) _)⟩
    have TX := pkS_any w2.heap.size (bit (picBits (rowsTo L S S)) (picW (rowsTo L S S)) (rowsTo L S S).length) w3 (fun i j => black_any w2.heap.size A c (rowsTo L S S) i j w3 PA (told_ok h0 h16 h0 h16)) (sdN s) hn4 S 0 0 hS (by omega) (by omega)
    rw [sq_qtf h0 hS hL hp, qtf_px _ _ f3 f4, ← F.out.2] at TX
    simp at TX
    have HTX := Lib.hid TX
    rw [hsS] at c0
    clear hw3 hm hT OP T1 T2 TX PA hp hR hL hS hsS f1 f2 f3 f4
    generalize sdN s = n at *
    subst hk
    have c0 : (w2.alloc (.cells #[.slice A k c] 41)).cell? ⟨w.heap.size, 0, none⟩ = some (.int .i64 (k : Int)) := by rw [HW3.out]; exact c0
    rw [hb]
    go_wp2_with fail
    rw [HW3.out]
    refine HTX.out.mono ?_
    rintro e w' ⟨rfl, rfl⟩
    go_wp2_with fail
    go_ret2
    exact ⟨by rw [F.out.1]; rfl, B3⟩
end Go.Proofs.Ytogefmkplkddoaa
