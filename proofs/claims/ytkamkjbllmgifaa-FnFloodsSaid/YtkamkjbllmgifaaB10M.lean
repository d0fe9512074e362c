/- The laws' drawn marks. -/
import Derived.Test.YtkamkjbllmgifaaB10G
import Derived.Test.YtkamkjbllmgifaaWtrP
namespace Go.Proofs.Ytkamkjbllmgifaa
open Go.RowKit

set_option maxRecDepth 100000 in
set_option maxHeartbeats 4000000 in
theorem b10Marks_any (A : Option Addr) (n c : Nat) (l : List Int) (Ag : Option Addr) (cg W H : Nat) (G : Nat → Int) (w : World) (hl : BytesAt w A n l) (hn : n ≤ maxLen) (hA : MatRd w Ag (gO G W H)) (hW0 : 0 < W) (hW : W ≤ 6) (hH0 : 0 < H) (hH : H ≤ 6) :
    Calls Try.prog 18 #[.slice A n c, .agg #[.slice Ag H cg]] w fun e w' => ∃ A' c' M, e = .returned (.slice A' H c') ∧ (∀ i, i < W * H → 0 ≤ M i ∧ M i ≤ 9) ∧ (∃ r, r < W * H ∧ M r ≠ 0) ∧ MatRd w' A' (gO M W H) ∧ Below w.heap.size w w' := by
  have lG : (gO G W H).length = H := gO_length _ _ _
  have T0 := Blk.made w 26 #[.slice Ag H cg]
  have B0 : Below w.heap.size w (w.alloc (.cells #[.slice Ag H cg] 26)) := Ext.more (Ext.refl _) _
  have F0 := Lib.hid (fun V (hb : Below w.heap.size w V) => from0_any A n c l V (hl.ext hb))
  have XA := Lib.hid (fun V (hb : Below w.heap.size w V) => hA.ext hb)
  obtain ⟨N, hN⟩ : ∃ N, W * H = N := ⟨_, rfl⟩
  have HN := Lib.hid hN
  have N36 : N ≤ 36 := by rw [← hN]; exact Nat.le_trans (Nat.mul_le_mul hW hH) (by decide)
  have N1 : 0 < N := by rw [← hN]; exact Nat.mul_pos hW0 hH0
  have LG := Lib.hid (fun V (hb : Below w.heap.size w V) => list_any Ag cg (gO G W H) W H N V (hA.ext hb) lG (fun y hy => gO_w G W H y hy) hW0 (by omega) (by omega) (by rw [Nat.mul_comm]; exact hN))
  have GX := Lib.hid (fun V (hb : Below w.heap.size w V) (hT : Blk V w.heap.size 26 #[.slice Ag H cg]) => (show GreyAt V w.heap.size Ag cg (gO G W H) from ⟨hT.lt, by rw [lG]; simpa using hT.cell 0, hA.ext hb⟩))
  have WD := Lib.hid (fun V (hV : GreyAt V w.heap.size Ag cg (gO G W H)) => widthG_any w.heap.size Ag cg (gO G W H) V hV (by rw [lG]; exact hH0))
  rw [tabW_gO G hH0] at WD
  obtain ⟨i0, hi', hz0, hz1, hz2⟩ := info_parts intT.info
  have hmk : ∀ V : World, (Instr.makeSlice 34 (.int .i64 (N : Int)) (.int .i64 (N : Int))).run Try.prog V = .ok (.slice (some ⟨V.heap.size, 0, none⟩) N N) (V.alloc (.cells (intC (fL (fun _ => 0) N)) 2)) := by
    intro V
    have h := run_make (P := Try.prog) V 34 2 i0 _ Try.underlying34 hi' hz0 .i64 .i64 (N : Int) (N : Int) (by omega) (Int.le_refl _) (by rw [hz2]; omega) (by omega)
    rw [h, hz1, Int.toNat_natCast]
    show Result.ok _ (V.alloc (.cells (madeCells #[.int .i64 0] (N * 1)) _)) = _
    rw [Nat.mul_one, intC_made]
  clear hi' hz0 hz1 hz2 hA hl hN
  have kT : Hid (∀ V, Blk V w.heap.size 26 #[.slice Ag H cg] → V.cell? ⟨w.heap.size, 0, none⟩ = some (.slice Ag H cg)) := fun V hT => by simpa using hT.cell 0
  go_enter Try.func18, Try.ntmps18
  go_wp2_with fail
  refine (F0.out _ B0).mono ?_
  rintro e w1 ⟨s, rfl, S1, hb1⟩
  have hsh := S1.high
  have T1 := T0.under hb1 T0.lt
  have B1 := Ext.then_ B0 hb1
  have k1 := kT.out _ T1
  have hs0 : w.heap.size < s := by have := T0.lt; omega
  clear F0 T0 B0 hb1
  go_wp2_with fail
  refine (LG.out _ B1).mono ?_
  rintro e w2 ⟨A2, c2, rfl, _, hb2⟩
  have S2 := (S1.ext hb2).ext (Ext.more (Ext.refl _) (.cells (intC (fL (fun _ => 0) N)) 2))
  have T2 := (T1.under hb2 T1.lt).more (.cells (intC (fL (fun _ => 0) N)) 2)
  have B2 := Ext.more (Ext.then_ B1 hb2) (.cells (intC (fL (fun _ => 0) N)) 2)
  have L2 := Blk.made w2 2 (intC (fL (fun _ => 0) N))
  have hsl : s < w2.heap.size := by have := S1.at_.le; have := hb2.size; omega
  clear LG S1 T1 B1 hb2 k1
  go_wp2_with fail
  obtain ⟨gL, hgL⟩ : ∃ gL, w2.heap.size = gL := ⟨_, rfl⟩
  rw [hgL] at L2 hsl
  try simp only [hgL]
  have hwl : w.heap.size < gL := by omega
  clear hmk hgL
  generalize w2.alloc (.cells (intC (fL (fun _ => 0) N)) 2) = w3 at *
  obtain ⟨B, hB⟩ : ∃ B, (w.alloc (.cells #[.slice Ag H cg] 26)).heap.size = B := ⟨_, rfl⟩
  have hB1 : B = w.heap.size + 1 := by rw [← hB]; simp
  rw [hB] at S2 hsh
  have HBB := Lib.hid hB1
  clear hB hB1
  refine (pick_any B s A n c 0 l 4 (by decide) (by decide) w3 S2 hn (by omega)).mono ?_
  rintro e w4 ⟨⟨k0, hk0, rfl⟩, ⟨j, hj, S4⟩, ho⟩
  have T4 := ho.blk T2 (fun e => by omega)
  have L4 := ho.blk L2 (fun e => by omega)
  have B4 := B2.trans (ho.below (fun b hb => by subst hb; omega) (by have := T2.lt; omega))
  clear S2 T2 L2 B2 ho
  go_wp2_with fail
  have ek : (1 : Int) + (k0 : Int) = ((k0 + 1 : Nat) : Int) := by omega
  rw [ek]
  have k03 : k0 ≤ 3 := by omega
  clear ek hk0
  go_loopw [7, 8] (fun kv _ wr => ∃ (k j : Nat) (M : Nat → Int), kv = .int .i64 k ∧ k ≤ k0 + 1 ∧ j ≤ 1 + 2 * (k0 + 1 - k) ∧ Hid ((∀ i, i < N → 0 ≤ M i ∧ M i ≤ 9) ∧ (k = k0 + 1 ∨ ∃ r, r < N ∧ M r ≠ 0)) ∧ Src B wr s A n c l j ∧ Blk wr gL 2 (intC (fL M N)) ∧ Blk wr w.heap.size 26 #[.slice Ag H cg] ∧ Below w.heap.size w wr) (fun kv _ _ => (intOf kv).toNat)
  case atStart => exact ⟨k0 + 1, j, fun _ => 0, rfl, Nat.le_refl _, by omega, ⟨fun _ _ => by simp, .inl rfl⟩, S4, L4, T4, B4⟩
  case round =>
    obtain ⟨k, j, M, rfl, hk, hjk, hM, S5, L5, T5, B5⟩ := hrel
    clear S4 L4 T4 B4
    by_cases hk0 : k = 0
    · subst hk0
      have MM := Lib.hid hM.out.1
      have MS := Lib.hid (hM.out.2.resolve_left (by omega))
      have k1 := kT.out _ T5
      have WD1 := Lib.hid (WD.out _ (GX.out _ B5 T5))
      have RW := Lib.hid (rowsC_any W H N gL N M wr hW0 (by omega) (by omega) HN.out.symm (Nat.le_refl _) L5.lt (fun j hj => by rw [L5.cell j, intC_get _ j (by rw [fL_length]; exact hj), fL_get]))
      clear hM S5 L5 T5
      go_wp2_with fail
      refine WD1.out.mono ?_
      rintro e w' ⟨rfl, rfl⟩
      go_wp2_with fail
      refine RW.out.mono ?_
      rintro e w6 ⟨A6, c6, vs, rfl, hm, hb6⟩
      have FR : Hid (MatRd w6 A6 (gO M W H)) := hm.rd
      have B6 := Ext.then_ B5 hb6
      clear hm
      go_wp2_with fail
      go_ret
      exact ⟨A6, c6, M, rfl, by rw [HN.out]; exact MM.out, by rw [HN.out]; exact MS.out, FR.out, B6⟩
    · have q0 : (0 : Int) < (k : Int) := by omega
      have hlL := L5.lt
      have hlT := T5.lt
      go_wp2_with fail
      refine (pick_any B s A n c j l (N : Int) (by omega) (by omega) wr S5 hn (by omega)).mono ?_
      rintro e w6 ⟨⟨a, ha, rfl⟩, ⟨j6, hj6, S6⟩, ho⟩
      have L6 := ho.blk L5 (fun e => by omega)
      have T6 := ho.blk T5 (fun e => by omega)
      have B6 := B5.trans (ho.below (fun b hb => by subst hb; omega) (by omega))
      have sz6 := ho.size
      clear S5 L5 T5 B5 ho
      have a0 : (0 : Int) ≤ (a : Int) := by omega
      go_wp2_with fail
      refine (pick_any B s A n c j6 l 3 (by decide) (by decide) w6 S6 hn (by omega)).mono ?_
      rintro e w7 ⟨⟨v, hv, rfl⟩, ⟨j7, hj7, S7⟩, ho⟩
      have L7 := ho.blk L6 (fun e => by omega)
      have T7 := ho.blk T6 (fun e => by omega)
      have B7 := B6.trans (ho.below (fun b hb => by subst hb; omega) (by omega))
      have sz7 := ho.size
      have hbB := HBB.out
      clear S6 L6 T6 B6 ho
      have aN : a < N := by omega
      have c7 := L7.cell a
      have f7 := L7.free a
      have l7 := L7.lt
      rw [intC_get _ a (by rw [fL_length]; exact aN), fL_get] at c7
      have L8 := L7.store a (.int .i64 ((1 : Int) + v))
      rw [intC_set, fL_set] at L8
      have T8 := T7.apart (p := ⟨gL, a, none⟩) (by show w.heap.size ≠ gL; omega) (.int .i64 ((1 : Int) + v))
      have S8 := S7.other (p := ⟨gL, a, none⟩) (by show B ≤ gL; omega) (by show s ≠ gL; omega) (.int .i64 ((1 : Int) + v))
      have B8 := B7.setCell (p := ⟨gL, a, none⟩) (by show w.heap.size ≤ gL; omega) (.int .i64 ((1 : Int) + v))
      have M8 : Hid ((∀ i, i < N → 0 ≤ setF M a ((1 : Int) + v) i ∧ setF M a ((1 : Int) + v) i ≤ 9) ∧ (k - 1 = k0 + 1 ∨ ∃ r, r < N ∧ setF M a ((1 : Int) + v) r ≠ 0)) := by
        refine ⟨fun i hi => ?_, .inr ⟨a, aN, by rw [setF_same]; omega⟩⟩
        by_cases e : i = a
        · subst e; rw [setF_same]; omega
        · rw [setF_ne e]; exact hM.out.1 i hi
      clear S7 L7 T7 B7 hM
      go_wp2_with fail
      go_roundw
      case rel =>
        refine ⟨_, _, _, _, _, _, _, _, _, _, _, _, _, _, _, _, ?_, rfl⟩
        exact ⟨k - 1, j7, _, by go_num, by omega, by omega, M8, S8, L8, T8, B8⟩
      case measure => simp [intOf]; omega
end Go.Proofs.Ytkamkjbllmgifaa
