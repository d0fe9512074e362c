/- Valleys: how pixels and valleys are compared; which valleys are near; places. -/
import Derived.Test.YtkamkjbllmgifaaVlA
import Derived.Test.YtkamkjbllmgifaaStbO
import Derived.Test.YtkamkjbllmgifaaSpi
namespace Go.Proofs.Ytkamkjbllmgifaa
open Go.RowKit

theorem inG_nats {W H : Nat} {q : Int × Int} (h : inG W H q = true) : ∃ a b : Nat, q = ((a : Int), (b : Int)) ∧ a < W ∧ b < H ∧ plc W q = b * W + a := by
  have := inG_iff.1 h
  obtain ⟨x, y⟩ := q
  simp only at this
  refine ⟨x.toNat, y.toNat, by rw [Int.toNat_of_nonneg (by omega), Int.toNat_of_nonneg (by omega)], by omega, by omega, rfl⟩
theorem g_atP {p : Nat} {A : Option Addr} {c : Nat} {rows : List (List Int)} {W : Nat} {wr : World} (h : GreyAt wr p A c rows) (hr : ∀ y (hy : y < rows.length), rows[y].length = W) {q : Int × Int} (hq : inG W rows.length q = true) :
    Calls Try.prog 41 #[.pointer (some ⟨p, 0, none⟩), .agg #[.int .i64 q.1, .int .i64 q.2]] wr fun e w' => e = .returned (.int .i64 (gF rows W (plc W q))) ∧ Below wr.heap.size wr w' := by
  obtain ⟨a, b, rfl, h1, h2, h3⟩ := inG_nats hq
  rw [h3]
  exact g_at h hr h1 h2
theorem enters_val1 : Enters 72 := enters_of Try.func72 (by kernel_rfl) (by kernel_rfl)
set_option maxRecDepth 100000 in
set_option maxHeartbeats 1000000 in
theorem val1_any (gb p : Nat) (A : Option Addr) (c : Nat) (rows : List (List Int)) (W : Nat) (x y : Int × Int) (w : World) (h : GreyAt w p A c rows) (hr : ∀ y (hy : y < rows.length), rows[y].length = W) (hb : w.cell? ⟨gb, 0, none⟩ = some (.pointer (some ⟨p, 0, none⟩))) (hl : gb < w.heap.size) (hx : inG W rows.length x = true) (hy : inG W rows.length y = true) :
    Calls Try.prog 72 #[.agg #[.int .i64 x.1, .int .i64 x.2], .agg #[.int .i64 y.1, .int .i64 y.2], .pointer (some ⟨gb, 0, none⟩)] w fun e w' => e = .returned (.int .i64 (cmI (gF rows W (plc W x)) (gF rows W (plc W y)))) ∧ Below w.heap.size w w' := by
  obtain ⟨x1, x2⟩ := x
  obtain ⟨y1, y2⟩ := y
  obtain ⟨wB, hwB⟩ : ∃ wB, (w.alloc (.cells #[.int .i64 x1, .int .i64 x2] 39)).alloc (.cells #[.int .i64 y1, .int .i64 y2] 39) = wB := ⟨_, rfl⟩
  have T1 : Blk wB w.heap.size 39 #[.int .i64 x1, .int .i64 x2] := by rw [← hwB]; exact (Blk.made w _ _).more _
  have T2 : Blk wB (w.heap.size + 1) 39 #[.int .i64 y1, .int .i64 y2] := by
    have := Blk.made (w.alloc (.cells #[.int .i64 x1, .int .i64 x2] 39)) 39 #[.int .i64 y1, .int .i64 y2]
    rw [hwB] at this; simpa using this
  have B1 : Below w.heap.size w wB := by rw [← hwB]; exact Ext.more (Ext.more (Ext.refl _) _) _
  have z2 : wB.heap.size = w.heap.size + 2 := by rw [← hwB]; simp
  have G1 := Lib.hid (fun V (hV : Below wB.heap.size wB V) => g_atP ((h.ext B1).ext hV) hr hx)
  have G2 := Lib.hid (fun V (hV : Below wB.heap.size wB V) => g_atP ((h.ext B1).ext hV) hr hy)
  have CC := Lib.hid (fun a b V => (cmpx_any a b V).mono fun e w' h => (show e = .returned (.int .i64 (cmI a b)) ∧ Below V.heap.size V w' from ⟨h.1, h.2 ▸ Ext.refl _⟩))
  have k0 := (B1.cell (p := ⟨gb, 0, none⟩) hl).trans hb
  have k1 := T1.cell 0
  have k2 := T1.cell 1
  have k3 := T2.cell 0
  have k4 := T2.cell 1
  simp at k1 k2 k3 k4
  have l1 := T1.lt
  have l2 := T2.lt
  have l3 : gb < wB.heap.size := by omega
  simp only at G1 G2 ⊢
  generalize gF rows W (plc W (x1, x2)) = ip at *
  generalize gF rows W (plc W (y1, y2)) = iq at *
  have HW := Lib.hid hwB
  have HB := Lib.hid B1
  clear T1 T2 B1 hb z2 hwB h
  go_enter Try.func72, Try.ntmps72
  go_wp2_with fail
  try simp only [HW.out]
  refine wp_region_held_quiet (fun U => Below wB.heap.size wB U) (by kernel_rfl) (by kernel_rfl) (Ext.refl _).drew ?_
  have ne : Nonempty (HeldW (fun U => Below wB.heap.size wB U)) := ⟨⟨wB, Ext.refl _⟩⟩
  have v0 : ∀ i : HeldW (fun U => Below wB.heap.size wB U), i.w.cell? ⟨gb, 0, none⟩ = _ := fun i => (i.h.cell (p := ⟨gb, 0, none⟩) l3).trans k0
  have v1 : ∀ i : HeldW (fun U => Below wB.heap.size wB U), i.w.cell? ⟨w.heap.size, 0, none⟩ = _ := fun i => (i.h.cell (p := ⟨w.heap.size, 0, none⟩) l1).trans k1
  have v2 : ∀ i : HeldW (fun U => Below wB.heap.size wB U), i.w.cell? ⟨w.heap.size, 1, none⟩ = _ := fun i => (i.h.cell (p := ⟨w.heap.size, 1, none⟩) l1).trans k2
  have v3 : ∀ i : HeldW (fun U => Below wB.heap.size wB U), i.w.cell? ⟨w.heap.size + 1, 0, none⟩ = _ := fun i => (i.h.cell (p := ⟨w.heap.size + 1, 0, none⟩) l2).trans k3
  have v4 : ∀ i : HeldW (fun U => Below wB.heap.size wB U), i.w.cell? ⟨w.heap.size + 1, 1, none⟩ = _ := fun i => (i.h.cell (p := ⟨w.heap.size + 1, 1, none⟩) l2).trans k4
  repeat (go_big_quiet_step ((first | (go_at_call_of 41 (Value.agg #[Value.int .i64 x1, Value.int .i64 x2]); exact Calls.above_of _ (G1.out _ (HeldW.h _))) | (go_at_call_of 41 (Value.agg #[Value.int .i64 y1, Value.int .i64 y2]); exact Calls.above_of _ (G2.out _ (HeldW.h _))) | (go_at_call 73; exact Calls.above_of _ (CC.out _ _ _)))))
  refine wpQuiet_nil ?_
  intro w4 hw'
  obtain ⟨⟨_, hb4⟩, rfl⟩ := hw'
  clear ne v0 v1 v2 v3 v4
  have BX := Lib.hid (Ext.then_ HB.out hb4)
  clear hb4 G1 G2 CC
  go_wp2_with fail
  go_ret
  exact ⟨rfl, BX.out⟩
theorem enters_val2 : Enters 78 := enters_of Try.func78 (by kernel_rfl) (by kernel_rfl)
theorem zeroIntV (w : World) : (zeroValue 3).run Try.prog w = .ok (.int .i64 0) w := by kernel_rfl
/-- The ranks of valleys by their blocks. -/
def rkM (B : Nat → Nat) (n : Nat) : Nat → Option Value := fun b => ((List.range n).find? fun v => B v == b).map fun v => .int .i64 ((v : Nat) : Int)
theorem rkM_at {B : Nat → Nat} {n : Nat} (hB : ∀ u v, u < n → v < n → B u = B v → u = v) {v : Nat} (hv : v < n) : rkM B n (B v) = some (.int .i64 ((v : Nat) : Int)) := by
  unfold rkM
  cases h : (List.range n).find? fun u => B u == B v with
  | none =>
    rw [List.find?_eq_none] at h
    have := h v (List.mem_range.2 hv)
    simp at this
  | some u =>
    have h1 := List.find?_some h
    have h2 := List.mem_range.1 (List.mem_of_find?_eq_some h)
    rw [hB u v h2 hv (by simpa using h1)]
    rfl
set_option maxRecDepth 100000 in
set_option maxHeartbeats 1000000 in
theorem val2_any (RB MR : Nat) (B : Nat → Nat) (n u v : Nat) (w : World) (hB : ∀ u v, u < n → v < n → B u = B v → u = v) (hr : w.cell? ⟨RB, 0, none⟩ = some (.map (some MR))) (hm : MapF ptV (fun _ => True) w MR (rkM B n)) (hc : ∀ v, v < n → IsCel w (B v)) (hu : u < n) (hv : v < n) :
    Calls Try.prog 78 #[.pointer (some ⟨B u, 0, none⟩), .pointer (some ⟨B v, 0, none⟩), .pointer (some ⟨RB, 0, none⟩)] w fun e w' => e = .returned (.int .i64 (cmI u v)) ∧ Below w.heap.size w w' := by
  have GD : ∀ a x, rkM B n a = some x → IsCel w a := by
    intro a x h
    unfold rkM at h
    rw [Option.map_eq_some_iff] at h
    obtain ⟨k, hk, -⟩ := h
    have h1 := List.find?_some hk
    have h2 := List.mem_range.1 (List.mem_of_find?_eq_some hk)
    have : B k = a := by simpa using h1
    rw [← this]; exact hc k h2
  have L1 := hm.lookupW (ptKW w) GD Try.underlying105 (zeroIntV w) (B u) (hc u hu) false
  have L2 := hm.lookupW (ptKW w) GD Try.underlying105 (zeroIntV w) (B v) (hc v hv) false
  rw [rkM_at hB hu] at L1
  rw [rkM_at hB hv] at L2
  simp only [Bool.false_eq_true, if_false, Option.getD_some] at L1 L2
  unfold ptV at L1 L2
  clear GD hm hc
  have CC := Lib.hid (fun a b V => cmpi_any a b V)
  have HI := Lib.hid hB
  clear hB
  generalize B u = bu at *
  generalize B v = bv at *
  go_enter Try.func78, Try.ntmps78
  go_wp2_with (go_at_call 79; refine (CC.out _ _ _).mono ?_; rintro e w' ⟨rfl, rfl⟩)
  go_ret
  exact ⟨rfl, by first | exact Ext.refl _ | exact (Ext.refl _).drew⟩
set_option maxRecDepth 100000 in
set_option maxHeartbeats 1000000 in
theorem indexP_any (g cp n : Nat) (vl d : Nat → Nat) (b : Nat) (w : World) (h : PtF w g n vl d) (hc : ∀ i, i < n → IsCel w (vl (d i))) (hb : IsCel w b) (hn : n ≤ 1000) :
    Calls Try.prog 99 #[.slice (some ⟨g, 0, none⟩) n cp, .pointer (some ⟨b, 0, none⟩)] w fun e w' => (∃ r : Int, e = .returned (.int .i64 r) ∧ (0 ≤ r ↔ ∃ i, i < n ∧ vl (d i) = b)) ∧ w = w' := by
  obtain ⟨j, hj, hz⟩ := valInfo
  have EQ := Lib.hid (fun i (hi : i < n) => run_ptEql Try.underlying65 hj hz hb (hc i hi))
  have HS := Lib.hid h
  clear hc h hj hz hb
  go_enter Try.func99, Try.ntmps99
  go_wp2_with fail
  go_loopw [8] (fun iv wr => ∃ k : Nat, k ≤ n ∧ iv = .int .i64 k ∧ Hid (∀ i, i < k → vl (d i) ≠ b) ∧ w = wr) (fun iv _ => n - (intOf iv).toNat)
  case atStart => exact ⟨0, Nat.zero_le _, rfl, fun j h => absurd h (Nat.not_lt_zero _), rfl⟩
  case round =>
    obtain ⟨k, hk, rfl, hno, rfl⟩ := hrel
    by_cases hlt : k < n
    · have c0 := HS.out.cell k hlt
      have E := EQ.out k hlt
      have i0 : (0 : Int) ≤ (k : Int) := by omega
      have i1 : (k : Int) < (n : Int) := by omega
      obtain ⟨q, hq⟩ : ∃ q, vl (d k) = q := ⟨_, rfl⟩
      rw [hq] at c0 E
      have HQ' := Lib.hid hq
      clear hq
      cases hbq : (b == q)
      · rw [hbq] at E
        have R : Hid (∀ i, i < k + 1 → vl (d i) ≠ b) := fun i hi => by
          rcases Nat.lt_succ_iff_lt_or_eq.1 hi with h | rfl
          · exact hno.out i h
          · rw [HQ'.out]; intro e; rw [e] at hbq; simp at hbq
        clear hno hbq
        go_wp2_with fail
        exact ⟨⟨k + 1, by omega, by go_num, R, by simp⟩, by simp [intOf]; omega⟩
      · rw [hbq] at E
        have R : Hid (0 ≤ (k : Int) ↔ ∃ i, i < n ∧ vl (d i) = b) := ⟨fun _ => ⟨k, hlt, by rw [HQ'.out]; exact (by simpa using hbq : b = q).symm⟩, fun _ => by omega⟩
        clear hno hbq
        go_wp2_with fail
        go_ret
        exact ⟨⟨_, rfl, R.out⟩, rfl⟩
    · obtain rfl : n = k := by omega
      have R : Hid (0 ≤ (-1 : Int) ↔ ∃ i, i < n ∧ vl (d i) = b) := ⟨fun h => by omega, fun ⟨i, hi, e⟩ => absurd e (hno.out i hi)⟩
      clear hno
      go_wp2_with fail
      go_ret
      exact ⟨⟨_, rfl, R.out⟩, rfl⟩
set_option maxHeartbeats 1000000 in
theorem containsP_any (g cp n : Nat) (vl d : Nat → Nat) (b : Nat) (w : World) (h : PtF w g n vl d) (hc : ∀ i, i < n → IsCel w (vl (d i))) (hb : IsCel w b) (hn : n ≤ 1000) (r : Bool) (hr : r = true ↔ ∃ i, i < n ∧ vl (d i) = b) :
    Calls Try.prog 75 #[.slice (some ⟨g, 0, none⟩) n cp, .pointer (some ⟨b, 0, none⟩)] w fun e w' => e = .returned (.bool r) ∧ w = w' := by
  have I := Lib.hid (indexP_any g cp n vl d b w h hc hb hn)
  have HR := Lib.hid hr
  clear h hc hb hr
  go_enter Try.func75, Try.ntmps75
  go_wp2_with fail
  refine I.out.mono ?_
  rintro e w' ⟨⟨k, rfl, hk⟩, rfl⟩
  have D : r = decide (0 ≤ k) := by
    rw [Bool.eq_iff_iff, HR.out, decide_eq_true_iff]
    exact hk.symm
  subst D
  clear I HR hk
  go_wp2_with fail
  go_ret
  exact ⟨by simp, rfl⟩
end Go.Proofs.Ytkamkjbllmgifaa
