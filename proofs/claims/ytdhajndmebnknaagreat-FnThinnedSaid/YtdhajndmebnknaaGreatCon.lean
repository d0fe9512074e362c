/- slices.Index, slices.Contains and slices.ContainsFunc at spots. -/
import Derived.Test.YtdhajndmebnknaaGreatEnd
import Derived.Test.YtdhajndmebnknaaGreatHQ
namespace Go.Proofs.YtdhajndmebnknaaGreat
open Go.RowKit

theorem any_gq {L : List (Int × Int)} {n : Nat} (hl : L.length = n) (f : Int × Int → Bool) : (List.range n).any (fun i => f (gq L i)) = L.any f := by
  subst hl
  rw [Bool.eq_iff_iff, List.any_eq_true, List.any_eq_true]
  constructor
  · rintro ⟨i, hi, h⟩
    have hil : i < L.length := by simpa using hi
    exact ⟨L[i], List.getElem_mem hil, by rw [gq_at hil]; exact h⟩
  · rintro ⟨a, ha, h⟩
    obtain ⟨i, hi, rfl⟩ := List.mem_iff_getElem.1 ha
    exact ⟨i, by simpa using hi, by rw [← gq_at hi]; exact h⟩
set_option maxRecDepth 100000 in
theorem eql_spotC (V : World) (px py x y : Int) : (binOp .eql 38 (.agg #[.int .i64 px, .int .i64 py]) (.agg #[.int .i64 x, .int .i64 y])).run Tryz.prog V = .ok (.bool (px == x && py == y)) V := by
  have hf : Tryz.prog.underlying 38 = some (.struct (Tryz.prog.fieldsOf 38)) := by kernel_rfl
  have hp : Tryz.prog.stoodInHeld 38 = false := by kernel_rfl
  rw [run_eql_struct, run_equalIn_agg _ _ _ _ _ hf hp]
  simp [go_sem, Tryz.underlying38, Tryz.underlying2]
  by_cases h1 : px = x <;> by_cases h2 : py = y <;> simp [h1, h2]
set_option maxRecDepth 100000 in
set_option maxHeartbeats 1000000 in
theorem indexSp_any (g cp n : Nat) (L : List (Int × Int)) (x y : Int) (w : World) (hA : SpAt w g L) (hl : L.length = n) (hn : n ≤ 1000) :
    Calls Tryz.prog 85 #[.slice (some ⟨g, 0, none⟩) n cp, .agg #[.int .i64 x, .int .i64 y]] w fun e w' => (∃ r : Int, e = .returned (.int .i64 r) ∧ IdxF (fun i => decide (gq L i = (x, y))) n r) ∧ Below w.heap.size w w' := by
  obtain ⟨wB, hwB⟩ : ∃ wB, w.alloc (.cells #[.int .i64 x, .int .i64 y] 38) = wB := ⟨_, rfl⟩
  have T1 : Blk wB w.heap.size 38 #[.int .i64 x, .int .i64 y] := by rw [← hwB]; exact Blk.made w _ _
  have B1 : Below w.heap.size w wB := by rw [← hwB]; exact Ext.more (Ext.refl _) _
  have z2 : wB.heap.size = w.heap.size + 1 := by rw [← hwB]; simp
  have hAB := hA.ext B1
  have HX := Lib.hid (fun V (hb : Below wB.heap.size wB V) => hAB.ext hb)
  have HT := Lib.hid (fun V (hb : Below wB.heap.size wB V) => T1.under hb T1.lt)
  have HL := Lib.hid hl
  have HB1 := Lib.hid B1
  have HwB := Lib.hid hwB
  clear hA hl hAB T1 z2 B1 hwB
  go_enter Tryz.func85, Tryz.ntmps85
  go_wp2_with fail
  try simp only [HwB.out]
  go_loopw [8] (fun iv wr => ∃ k : Nat, k ≤ n ∧ iv = .int .i64 k ∧ Hid (∀ j, j < k → decide (gq L j = (x, y)) = false) ∧ Below wB.heap.size wB wr) (fun iv _ => n - (intOf iv).toNat)
  case atStart => exact ⟨0, Nat.zero_le _, rfl, fun j h => absurd h (Nat.not_lt_zero _), Ext.refl _⟩
  case round =>
    obtain ⟨k, hk, rfl, hno, hb⟩ := hrel
    by_cases hlt : k < n
    · have hkl : k < L.length := by rw [HL.out]; exact hlt
      have hS := HX.out _ hb
      obtain ⟨c1, c2⟩ := hS.2 k hkl
      have gl := hS.1
      rw [gq_at hkl] at c1 c2
      have T := HT.out _ hb
      have tl := T.lt
      have c3 := T.cell 0
      have c4 := T.cell 1
      simp at c3 c4
      obtain ⟨p, hp⟩ : ∃ p, gq L k = p := ⟨_, rfl⟩
      rw [hp] at c1 c2
      obtain ⟨px, py⟩ := p
      simp only at c1 c2
      have HP := Lib.hid hp
      have i0 : (0 : Int) ≤ (k : Int) := by omega
      have i1 : (k : Int) < (n : Int) := by omega
      clear T hS hkl hp
      have EQ : ∀ V : World, (binOp .eql 38 (.agg #[.int .i64 x, .int .i64 y]) (.agg #[.int .i64 px, .int .i64 py])).run Tryz.prog V = .ok (.bool (x == px && y == py)) V := fun V => eql_spotC V x y px py
      obtain ⟨bb, hbb⟩ : ∃ bb, (x == px && y == py) = bb := ⟨_, rfl⟩
      rw [hbb] at EQ
      have HBB := Lib.hid hbb
      clear hbb
      go_wp2_with fail
      refine wp_region_held_quiet (fun U => Below wr.heap.size wr U) (by kernel_rfl) (by kernel_rfl) (Ext.refl _).drew ?_
      have ne : Nonempty (HeldW (fun U => Below wr.heap.size wr U)) := ⟨⟨wr, Ext.refl _⟩⟩
      have v0 : ∀ i : HeldW (fun U => Below wr.heap.size wr U), i.w.cell? ⟨g, k * 2, none⟩ = _ := fun i => (i.h.cell (p := ⟨g, k * 2, none⟩) gl).trans c1
      have v1 : ∀ i : HeldW (fun U => Below wr.heap.size wr U), i.w.cell? ⟨g, k * 2 + 1, none⟩ = _ := fun i => (i.h.cell (p := ⟨g, k * 2 + 1, none⟩) gl).trans c2
      have v2 : ∀ i : HeldW (fun U => Below wr.heap.size wr U), i.w.cell? ⟨w.heap.size, 0, none⟩ = _ := fun i => (i.h.cell (p := ⟨w.heap.size, 0, none⟩) tl).trans c3
      have v3 : ∀ i : HeldW (fun U => Below wr.heap.size wr U), i.w.cell? ⟨w.heap.size, 1, none⟩ = _ := fun i => (i.h.cell (p := ⟨w.heap.size, 1, none⟩) tl).trans c4
      repeat (go_big_quiet_step (fail))
      refine wpQuiet_nil ?_
      intro w4 hw'
      obtain ⟨⟨_, hb4⟩, rfl⟩ := hw'
      clear ne v0 v1 v2 v3
      have HB := Ext.then_ hb hb4
      cases bb
      · have R : Hid (∀ j, j < k + 1 → decide (gq L j = (x, y)) = false) := fun j hj => by
          rcases Nat.lt_succ_iff_lt_or_eq.1 hj with h | rfl
          · exact hno.out j h
          · rw [decide_eq_false_iff_not, HP.out]
            intro e
            have := HBB.out
            rw [Prod.mk.injEq] at e
            rw [e.1, e.2] at this
            simp at this
        clear hno HBB
        go_wp2_with fail
        go_roundw
        case rel => exact ⟨k + 1, by omega, by go_num, R.out, HB⟩
        case measure => simp [intOf]; omega
      · have R : Hid (IdxF (fun i => decide (gq L i = (x, y))) n k) := .inl ⟨k, rfl, hlt, by
          have := HBB.out
          rw [Bool.and_eq_true, beq_iff_eq, beq_iff_eq] at this
          simp only [decide_eq_true_iff]
          rw [HP.out, this.1, this.2], hno.out⟩
        clear hno HBB
        go_wp2_with fail
        go_ret
        exact ⟨⟨_, rfl, R.out⟩, Ext.then_ HB1.out HB⟩
    · obtain rfl : k = n := by omega
      have R : Hid (IdxF (fun i => decide (gq L i = (x, y))) k (-1)) := .inr ⟨rfl, hno.out⟩
      clear hno
      go_wp2_with fail
      go_ret
      exact ⟨⟨_, rfl, R.out⟩, Ext.then_ HB1.out hb⟩
set_option maxHeartbeats 1000000 in
theorem containsSp_any (g cp n : Nat) (L : List (Int × Int)) (x y : Int) (w : World) (hA : SpAt w g L) (hl : L.length = n) (hn : n ≤ 1000) :
    Calls Tryz.prog 74 #[.slice (some ⟨g, 0, none⟩) n cp, .agg #[.int .i64 x, .int .i64 y]] w fun e w' => e = .returned (.bool (decide ((x, y) ∈ L))) ∧ Below w.heap.size w w' := by
  have B1 : Below w.heap.size w (w.alloc (.cells #[.int .i64 x, .int .i64 y] 38)) := Ext.more (Ext.refl _) _
  have k0 : (w.alloc (.cells #[.int .i64 x, .int .i64 y] 38)).cell? ⟨w.heap.size, 0, none⟩ = some (.int .i64 x) := cell_new w _ _ 0
  have k1 : (w.alloc (.cells #[.int .i64 x, .int .i64 y] 38)).cell? ⟨w.heap.size, 1, none⟩ = some (.int .i64 y) := cell_new w _ _ 1
  have C := Lib.hid (indexSp_any g cp n L x y _ (hA.ext B1) hl hn)
  have AG : Hid ((List.range n).any (fun i => decide (gq L i = (x, y))) = decide ((x, y) ∈ L)) := by
    rw [Hid, any_gq hl (fun p => decide (p = (x, y))), Bool.eq_iff_iff, List.any_eq_true, decide_eq_true_iff]
    exact ⟨fun ⟨a, h1, h2⟩ => by rw [decide_eq_true_iff] at h2; rw [← h2]; exact h1, fun h => ⟨_, h, by simp⟩⟩
  clear hA hl
  go_enter Tryz.func74, Tryz.ntmps74
  go_wp2_with fail
  refine C.out.mono ?_
  rintro e w2 ⟨⟨r, rfl, hr⟩, hb2⟩
  have E := Lib.hid hr.any
  clear hr
  go_wp2_with fail
  go_ret
  exact ⟨ret_bool (by rw [← AG.out, ← E.out]), Ext.then_ B1 hb2⟩
set_option maxHeartbeats 1000000 in
theorem containsFuncD_any (g c n : Nat) (K : FuncId) (caps : Array Value) (L : List (Int × Int)) (f : Int × Int → Bool) (w : World) (hA : SpAt w g L) (hl : L.length = n) (hn : n ≤ 1000000000) (hK : Enters K)
    (hF : ∀ p ∈ L, ∀ wr, Below w.heap.size w wr → Calls Tryz.prog K (#[sqA p] ++ caps) wr fun e w' => e = .returned (.bool (f p)) ∧ Below wr.heap.size wr w') :
    Calls Tryz.prog 76 #[.slice (some ⟨g, 0, none⟩) n c, .func (.func K) #[] caps] w fun e w' => e = .returned (.bool (L.any f)) ∧ Below w.heap.size w w' := by
  have C := Lib.hid (indexFuncD_any g c n K caps L f w hA hl hn hK hF)
  have AG := Lib.hid (any_gq hl f)
  clear hF hA hl hK
  go_enter Tryz.func76, Tryz.ntmps76
  go_wp2_with fail
  refine (C.out).mono ?_
  rintro e w2 ⟨⟨r, rfl, hr⟩, hb2⟩
  have E := Lib.hid hr.any
  clear hr
  go_wp2_with fail
  go_ret
  exact ⟨ret_bool (by rw [← AG.out, ← E.out]), hb2⟩
end Go.Proofs.YtdhajndmebnknaaGreat
