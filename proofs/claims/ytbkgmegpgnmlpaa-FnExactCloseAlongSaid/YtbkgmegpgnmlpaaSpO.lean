/- Spots of a law: copied, compared, marked, held; opened. -/
import Derived.Test.YtbkgmegpgnmlpaaSSp
import Derived.Test.YtbkgmegpgnmlpaaOpenS
import Derived.Deep.SlicePairs
namespace Go.Proofs.Ytbkgmegpgnmlpaa
open Go.RowKit

/-- A slice of spots that came in. -/
def SpRdA (w : World) (A : Option Addr) (L : List (Int × Int)) : Prop :=
  0 < L.length → ∃ a, A = some a ∧ a.block < w.heap.size ∧ ∀ i (h : i < L.length), w.cell? (a.add (i * 2)) = some (.int .i64 (L[i]).1) ∧ w.cell? (a.add (i * 2 + 1)) = some (.int .i64 (L[i]).2)
theorem SpRdA.ext {w w' : World} {A : Option Addr} {L : List (Int × Int)} (h : SpRdA w A L) (hb : Below w.heap.size w w') : SpRdA w' A L := by
  intro hl
  obtain ⟨a, e, hg, hc⟩ := h hl
  refine ⟨a, e, Nat.lt_of_lt_of_le hg hb.size, fun i hi => ?_⟩
  have h1 := hb.cell (p := a.add (i * 2)) (by rw [Addr.add_block']; exact hg)
  have h2 := hb.cell (p := a.add (i * 2 + 1)) (by rw [Addr.add_block']; exact hg)
  exact ⟨h1.trans (hc i hi).1, h2.trans (hc i hi).2⟩
/-- A slice of spots of a call's own, to be read. -/
def SpRd (w : World) (A : Option Addr) (L : List (Int × Int)) : Prop := 0 < L.length → ∃ g, A = some ⟨g, 0, none⟩ ∧ SpAt w g L
theorem SpRd.ext {w w' : World} {A : Option Addr} {L : List (Int × Int)} (h : SpRd w A L) (hb : Below w.heap.size w w') : SpRd w' A L := fun hl => by
  obtain ⟨g, e, hS⟩ := h hl
  exact ⟨g, e, hS.ext hb⟩
/-- A slice of spots of a call's own, between two heap sizes. -/
structure SpO (w : World) (lo hi : Nat) (A : Option Addr) (c : Nat) (L : List (Int × Int)) : Prop where
  own : w.ownsRow lo 29 2 (.slice A L.length c) L.length (spL L)
  top : ∀ a, A = some a → a.block < hi
section
variable {w w' : World} {lo hi : Nat} {A : Option Addr} {c : Nat} {L : List (Int × Int)}
theorem SpO.ext (h : SpO w lo hi A c L) (hb : Below w.heap.size w w') : SpO w' lo hi A c L := ⟨own_ext hb h.own, h.top⟩
theorem SpO.keep {S : Nat → Prop} (h : SpO w lo hi A c L) (hc : Chg S w w') (hS : ∀ b, lo ≤ b → b < hi → ¬ S b) : SpO w' lo hi A c L := by
  refine ⟨hc.own h.own (fun g hg => ?_), h.top⟩
  cases A with
  | none => simp [Value.ownBlock] at hg
  | some a =>
    have hl := (h.own.lt g hg).1
    simp [Value.ownBlock] at hg
    exact hS g hl (by rw [← hg]; exact h.top a rfl)
theorem SpO.rd (h : SpO w lo hi A c L) : SpRd w A L := by
  intro hn
  rcases h.own.2 with ⟨_, h0⟩ | ⟨g, cap, cur, hv, _⟩
  · omega
  · simp only [Value.slice.injEq] at hv
    obtain ⟨rfl, _, rfl⟩ := hv
    exact ⟨g, rfl, own_spots h.own rfl⟩
theorem SpO.at {g : Nat} (h : SpO w lo hi (some ⟨g, 0, none⟩) c L) : SpAt w g L := own_spots h.own rfl
theorem SpO.of_own (h : w.ownsRow lo 29 2 (.slice A L.length c) L.length (spL L)) : SpO w lo w.heap.size A c L := ⟨h, fun a ha => by subst ha; exact (h.lt a.block rfl).2⟩
theorem SpO.low {lo' hi' : Nat} (h : SpO w lo hi A c L) (h1 : lo' ≤ lo) (h2 : hi ≤ hi') : SpO w lo' hi' A c L := ⟨own_base h.own h1, fun a ha => Nat.lt_of_lt_of_le (h.top a ha) h2⟩
end
set_option maxHeartbeats 400000 in
theorem szSpots_any (A : Option Addr) (n c l0 : Nat) (hl : l0 ≤ 1048576) (hn : n ≤ maxLen) (w : World) :
    Calls Try.prog 33 #[.slice A n c, .int .i64 l0] w fun e w' => (∃ r : Int, e = .returned (.int .i64 r) ∧ (r < 0 ∨ n ≤ l0 ∧ r = ((l0 - n : Nat) : Int))) ∧ w = w' := by
  unfold maxLen at hn
  by_cases h : (l0 : Int) - n < 0
  · go_enter Try.func33, Try.ntmps33
    go_wp2_with fail
    go_ret
    exact ⟨⟨-1, rfl, .inl (by omega)⟩, rfl⟩
  · have H1 : Hid (n ≤ l0) := by show n ≤ l0; omega
    go_enter Try.func33, Try.ntmps33
    go_wp2_with fail
    go_ret
    exact ⟨⟨(l0 : Int) - n, rfl, .inr ⟨H1.out, by have := H1.out; omega⟩⟩, rfl⟩
/-- The first k of the spots, the others null. -/
def toL (L : List (Int × Int)) (k : Nat) : List (Int × Int) := L.take k ++ List.replicate (L.length - k) (0, 0)
theorem toL_len (L : List (Int × Int)) (k : Nat) : k ≤ L.length → (toL L k).length = L.length := by intro h; simp [toL]; omega
theorem toL_step (L : List (Int × Int)) {k : Nat} (h : k < L.length) : (toL L k).set k L[k] = toL L (k + 1) := by
  unfold toL
  have h1 : (L.take k).length = k := by simp; omega
  have e : L.length - k = (L.length - (k + 1)) + 1 := by omega
  rw [List.set_append_right _ _ (by omega), h1, Nat.sub_self, e, List.replicate_succ, List.set_cons_zero, List.take_succ_eq_append_getElem h, List.append_assoc]
  rfl
theorem toL_all (L : List (Int × Int)) : toL L L.length = L := by simp [toL]
theorem toL_zero (L : List (Int × Int)) : toL L 0 = List.replicate L.length (0, 0) := by simp [toL]
theorem blk_own {w : World} {g base : Nat} {L : List (Int × Int)} (h : Blk w g 29 (spC L)) (hb : base ≤ g) (hl : L.length ≤ maxLen) : w.ownsRow base 29 2 (.slice (some ⟨g, 0, none⟩) L.length L.length) L.length (spL L) := by
  refine ⟨by rw [spL_length]; omega, .inr ⟨g, L.length, spC L, rfl, hb, h, Nat.le_refl _, hl, by rw [spC_size]; omega, ?_⟩⟩
  rw [spC, List.toList_toArray, List.take_of_length_le (by rw [spL_length]; omega)]
set_option maxRecDepth 100000 in
set_option maxHeartbeats 1000000 in
theorem toSpots_any (A : Option Addr) (c : Nat) (L : List (Int × Int)) (w : World) (h : SpRdA w A L) (hn : L.length ≤ 1048576) :
    Calls Try.prog 35 #[.slice A L.length c] w fun e w' => ∃ g' c', e = .returned (.slice (some ⟨g', 0, none⟩) L.length c') ∧ SpO w' w.heap.size w'.heap.size (some ⟨g', 0, none⟩) c' L ∧ Below w.heap.size w w' := by
  have EX := Lib.hid (fun V (hb : Below w.heap.size w V) => h.ext hb)
  obtain ⟨n, hnL⟩ : ∃ n, L.length = n := ⟨_, rfl⟩
  have HN := Lib.hid hnL
  have hmk : (Instr.makeSlice 50 (.int .i64 (n : Int)) (.int .i64 (n : Int))).run Try.prog w = .ok (.slice (some ⟨w.heap.size, 0, none⟩) n n) (w.alloc (.cells (spC (toL L 0)) 29)) := by
    obtain ⟨i0, hi, hz0, hz1, hz2⟩ := info_parts spotT.info
    have h := run_make (P := Try.prog) w 50 29 i0 _ Try.underlying50 hi hz0 .i64 .i64 (n : Int) (n : Int) (by omega) (Int.le_refl _) (by rw [hz2]; omega) (by omega)
    rw [h, hz1, Int.toNat_natCast]
    show Result.ok _ (w.alloc (.cells (madeCells #[.int .i64 0, .int .i64 0] (n * 2)) _)) = _
    rw [spC_made, toL_zero, hnL]
  have S := Lib.hid (fun k (h : k < L.length) => toL_step L h)
  have TA := Lib.hid (toL_all L)
  have TL := Lib.hid (toL_len L)
  rw [hnL] at hn ⊢
  clear h hnL
  go_enter Try.func35, Try.ntmps35
  go_wp2_with fail
  have hB0 := Blk.made w 29 (spC (toL L 0))
  have hb0 := Ext.more (Ext.refl w) (.cells (spC (toL L 0)) 29)
  clear hmk
  generalize w.alloc (.cells (spC (toL L 0)) 29) = w0 at *
  go_loopw [4] (fun i wr => ∃ k : Nat, k ≤ n ∧ i = .int .i64 k ∧ Blk wr w.heap.size 29 (spC (toL L k)) ∧ Below w.heap.size w wr) (fun i _ => n - (intOf i).toNat)
  case atStart => exact ⟨0, Nat.zero_le _, rfl, hB0, hb0⟩
  case round =>
    obtain ⟨k, hk, rfl, hB, hb⟩ := hrel
    clear hB0 hb0
    by_cases hlt : k < n
    · have hkl : k < L.length := by rw [HN.out]; exact hlt
      obtain ⟨a, rfl, hg, hc⟩ := EX.out wr hb (by omega)
      obtain ⟨c1, c2⟩ := hc k hkl
      have ST := S.out k hkl
      obtain ⟨⟨u1, hu1⟩, ⟨u2, hu2⟩⟩ := spC_ex (toL L k) n k (by rw [TL.out k (by omega)]; exact HN.out) hlt
      generalize L[k] = p at *
      obtain ⟨px, py⟩ := p
      simp only at c1 c2
      have T := Lib.hid (fun V => toSpot_any px py V)
      have c5 : wr.cell? ((a.add (k * 2)).add 1) = some (.int .i64 py) := by rw [Go.Deep.add_add]; exact c2
      have c6 : wr.cell? ⟨(a.add (k * 2)).block, (a.add (k * 2)).off + 1, none⟩ = some (.int .i64 py) := c5
      have HS : Hid (spC (toL L (k + 1)) = ((spC (toL L k)).setIfInBounds (k * 2) (.int .i64 px)).setIfInBounds (k * 2 + 1) (.int .i64 py)) := by
        rw [Hid, ← ST, ← spC_set]
      have i0 : (0 : Int) ≤ (k : Int) := by omega
      have i1 : (k : Int) < (n : Int) := by omega
      clear hc ST hkl
      go_wp2_with fail
      refine (T.out _).mono ?_
      rintro e w2 ⟨rfl, hb2⟩
      have hB2 := hB.under hb2 hB.lt
      have c3 := (hB2.cell (k * 2)).trans hu1
      have c4 := (hB2.cell (k * 2 + 1)).trans hu2
      have f3 := hB2.free (k * 2)
      have f4 := hB2.free (k * 2 + 1)
      have l2 := hB2.lt
      have hB3 := (hB2.store (k * 2) (.int .i64 px)).store (k * 2 + 1) (.int .i64 py)
      rw [← HS.out] at hB3
      have HB := Lib.hid hB3
      have B3 := ((Ext.then_ hb hb2).setCell (p := ⟨w.heap.size, k * 2, none⟩) (Nat.le_refl _) (.int .i64 px)).setCell (p := ⟨w.heap.size, k * 2 + 1, none⟩) (Nat.le_refl _) (.int .i64 py)
      clear hB2 hB3 hu1 hu2 hB hb2 c1 c2 c5 c6
      go_wp2_with fail
      go_roundw
      case rel => exact ⟨k + 1, by omega, by go_num, HB.out, B3⟩
      case measure => simp [intOf]; omega
    · obtain rfl : k = n := by omega
      have e1 : toL L k = L := by rw [← HN.out]; exact TA.out
      rw [e1] at hB
      have hO := Lib.hid (SpO.of_own (blk_own hB (Nat.le_refl _) (by rw [HN.out]; unfold maxLen; omega)))
      clear hB e1
      go_wp2_with fail
      go_ret
      refine ⟨w.heap.size, k, rfl, ?_, hb⟩
      have := hO.out
      rw [HN.out] at this
      exact this
set_option maxHeartbeats 400000 in
theorem eqSpot1_any (x y : Int) (w : World) : Calls Try.prog 21 #[.agg #[.int .i64 x, .int .i64 y], .agg #[.int .i64 x, .int .i64 y]] w fun e w' => e = .returned (.bool true) ∧ Below w.heap.size w w' := by
  obtain ⟨wB, hwB⟩ : ∃ wB, (w.alloc (.cells #[.int .i64 x, .int .i64 y] 29)).alloc (.cells #[.int .i64 x, .int .i64 y] 29) = wB := ⟨_, rfl⟩
  have T1 : Blk wB w.heap.size 29 #[.int .i64 x, .int .i64 y] := by rw [← hwB]; exact (Blk.made w _ _).more _
  have T2 : Blk wB (w.heap.size + 1) 29 #[.int .i64 x, .int .i64 y] := by
    have := Blk.made (w.alloc (.cells #[.int .i64 x, .int .i64 y] 29)) 29 #[.int .i64 x, .int .i64 y]
    rw [hwB] at this; simpa using this
  have B1 : Below w.heap.size w wB := by rw [← hwB]; exact Ext.more (Ext.more (Ext.refl _) _) _
  have z2 : wB.heap.size = w.heap.size + 2 := by rw [← hwB]; simp
  have k0 := T1.cell 0
  have k1 := T1.cell 1
  have k2 := T2.cell 0
  have k3 := T2.cell 1
  simp at k0 k1 k2 k3
  have t1 : (x != x) = false := by simp
  have t2 : (y != y) = false := by simp
  clear T1 T2 z2
  have HW := Lib.hid hwB
  go_enter Try.func21, Try.ntmps21
  go_wp2_with fail
  try simp only [HW.out]
  go_wp2_with fail
  go_ret
  exact ⟨rfl, B1⟩
set_option maxRecDepth 100000 in
set_option maxHeartbeats 1000000 in
theorem eqSpots_any (A B : Option Addr) (c d : Nat) (L : List (Int × Int)) (w : World) (hA : SpRd w A L) (hB : SpRd w B L) (hn : L.length ≤ 1000000000) :
    Calls Try.prog 37 #[.slice A L.length c, .slice B L.length d] w fun e w' => e = .returned (.bool true) ∧ Below w.heap.size w w' := by
  have AX := Lib.hid (fun V (hb : Below w.heap.size w V) => hA.ext hb)
  have BX := Lib.hid (fun V (hb : Below w.heap.size w V) => hB.ext hb)
  obtain ⟨n, hnL⟩ : ∃ n, L.length = n := ⟨_, rfl⟩
  have HN := Lib.hid hnL
  have t0 : ((n : Int) != n) = false := by simp
  rw [hnL] at hn ⊢
  clear hA hB hnL
  go_enter Try.func37, Try.ntmps37
  go_wp2_with fail
  go_loopw [5] (fun i wr => ∃ k : Nat, k ≤ n ∧ i = .int .i64 k ∧ Below w.heap.size w wr) (fun i _ => n - (intOf i).toNat)
  case atStart => exact ⟨0, Nat.zero_le _, rfl, Ext.refl _⟩
  case round =>
    obtain ⟨k, hk, rfl, hb⟩ := hrel
    by_cases hlt : k < n
    · have hkl : k < L.length := by rw [HN.out]; exact hlt
      obtain ⟨g, rfl, gl, hcA⟩ := AX.out wr hb (by omega)
      obtain ⟨g', rfl, gl', hcB⟩ := BX.out wr hb (by omega)
      obtain ⟨c1, c2⟩ := hcA k hkl
      obtain ⟨c3, c4⟩ := hcB k hkl
      generalize L[k] = p at *
      obtain ⟨px, py⟩ := p
      simp only at c1 c2 c3 c4
      have E := Lib.hid (fun V => eqSpot1_any px py V)
      have i0 : (0 : Int) ≤ (k : Int) := by omega
      have i1 : (k : Int) < (n : Int) := by omega
      clear hcA hcB hkl
      go_wp2_with fail
      refine wp_region_held_quiet (fun U => Below wr.heap.size wr U) (by kernel_rfl) (by kernel_rfl) (Ext.refl _).drew ?_
      have ne : Nonempty (HeldW (fun U => Below wr.heap.size wr U)) := ⟨⟨wr, Ext.refl _⟩⟩
      have v0 : ∀ i : HeldW (fun U => Below wr.heap.size wr U), i.w.cell? ⟨g, k * 2, none⟩ = _ := fun i => (i.h.cell (p := ⟨g, k * 2, none⟩) gl).trans c1
      have v1 : ∀ i : HeldW (fun U => Below wr.heap.size wr U), i.w.cell? ⟨g, k * 2 + 1, none⟩ = _ := fun i => (i.h.cell (p := ⟨g, k * 2 + 1, none⟩) gl).trans c2
      have v2 : ∀ i : HeldW (fun U => Below wr.heap.size wr U), i.w.cell? ⟨g', k * 2, none⟩ = _ := fun i => (i.h.cell (p := ⟨g', k * 2, none⟩) gl').trans c3
      have v3 : ∀ i : HeldW (fun U => Below wr.heap.size wr U), i.w.cell? ⟨g', k * 2 + 1, none⟩ = _ := fun i => (i.h.cell (p := ⟨g', k * 2 + 1, none⟩) gl').trans c4
      repeat (go_big_quiet_step ((go_at_call 21; exact Calls.above_of _ (E.out _))))
      refine wpQuiet_nil ?_
      intro w4 hw'
      obtain ⟨⟨_, hb4⟩, rfl⟩ := hw'
      clear ne v0 v1 v2 v3
      have HB := Ext.then_ hb hb4
      go_wp2_with fail
      go_roundw
      case rel => exact ⟨k + 1, by omega, by go_num, HB⟩
      case measure => simp [intOf]; omega
    · obtain rfl : k = n := by omega
      go_wp2_with fail
      go_ret
      exact ⟨rfl, hb⟩
/-- The marks k0, k0 + 1, .. as spots. -/
def mkSp (k0 n : Nat) : List (Int × Int) := (List.range n).map fun i => (((k0 + 2 * i : Nat) : Int), ((k0 + 2 * i + 1 : Nat) : Int))
theorem mkSp_len (k0 n : Nat) : (mkSp k0 n).length = n := by simp [mkSp]
theorem mkSp_succ (k0 n : Nat) : mkSp k0 (n + 1) = mkSp k0 n ++ [(((k0 + 2 * n : Nat) : Int), ((k0 + 2 * n + 1 : Nat) : Int))] := by simp [mkSp, List.range_succ]
theorem mkSp_at {k0 n i : Nat} (h : i < n) : (mkSp k0 n)[i]'(by rw [mkSp_len]; exact h) = (((k0 + 2 * i : Nat) : Int), ((k0 + 2 * i + 1 : Nat) : Int)) := by simp [mkSp]
theorem mkSp_step {k0 : Nat} {L : List (Int × Int)} {k : Nat} (h : k < L.length) : (mkSp k0 k ++ L.drop k).set k (((k0 + 2 * k : Nat) : Int), ((k0 + 2 * k + 1 : Nat) : Int)) = mkSp k0 (k + 1) ++ L.drop (k + 1) := by
  rw [List.set_append_right _ _ (by rw [mkSp_len]; omega), mkSp_len, Nat.sub_self, List.drop_eq_getElem_cons h, List.set_cons_zero, mkSp_succ, List.append_assoc]
  rfl
set_option maxRecDepth 100000 in
set_option maxHeartbeats 1000000 in
theorem markSpots_any (lo hi : Nat) (A : Option Addr) (c : Nat) (L : List (Int × Int)) (k0 : Nat) (w : World) (h : SpO w lo hi A c L) (hn : L.length ≤ 1000000000) (hk0 : k0 ≤ 1000000000) :
    Calls Try.prog 38 #[.slice A L.length c, .int .i64 k0] w fun e w' => e = .returned (.int .i64 ((k0 + 2 * L.length : Nat) : Int)) ∧ SpO w' lo hi A c (mkSp k0 L.length) ∧ Chg (fun b => lo ≤ b ∧ b < hi) w w' := by
  obtain ⟨hown0, htop⟩ := h
  obtain ⟨n, hnL⟩ : ∃ n, L.length = n := ⟨_, rfl⟩
  have HN := Lib.hid hnL
  have HT := Lib.hid htop
  rw [hnL] at hn hown0 ⊢
  clear htop hnL
  go_enter Try.func38, Try.ntmps38
  go_wp2_with fail
  go_loopw [1, 5] (fun v i wr => ∃ k : Nat, k ≤ n ∧ i = .int .i64 k ∧ v = .int .i64 ((k0 + 2 * k : Nat) : Int) ∧ wr.ownsRow lo 29 2 (.slice A n c) n (spL (mkSp k0 k ++ L.drop k)) ∧ Chg (fun b => lo ≤ b ∧ b < hi) w wr) (fun _ i _ => n - (intOf i).toNat)
  case atStart => exact ⟨0, Nat.zero_le _, rfl, rfl, by simpa [mkSp] using hown0, Chg.refl _ _⟩
  case round =>
    obtain ⟨k, hk, rfl, rfl, hown, hb⟩ := hrel
    clear hown0
    by_cases hlt : k < n
    · rcases hown.2 with ⟨_, h0⟩ | ⟨g, cap, cur, hv, _⟩
      · omega
      · simp only [Value.slice.injEq] at hv
        obtain ⟨rfl, _, rfl⟩ := hv
        have hl : (mkSp k0 k ++ L.drop k).length = n := by simp [mkSp_len]; have := HN.out; omega
        have ST := spL_set (mkSp k0 k ++ L.drop k) (((k0 + 2 * k : Nat) : Int), ((k0 + 2 * k + 1 : Nat) : Int)) k
        rw [mkSp_step (by rw [HN.out]; exact hlt)] at ST
        have c1 := hown.cellAt (k * 2) (by omega)
        have c2 := hown.cellAt (k * 2 + 1) (by omega)
        have f1 := hown.frozenAt (k * 2)
        have f2 := hown.frozenAt (k * 2 + 1)
        have glo := (hown.lt g rfl).1
        have ghi := HT.out _ rfl
        have gl := (hown.lt g rfl).2
        rw [List.getElem?_eq_getElem (by rw [spL_length]; omega)] at c1 c2
        have O2 := (hown.stored (k * 2) (.int .i64 ((k0 + 2 * k : Nat) : Int))).1
        have O3 := (O2.stored (k * 2 + 1) (.int .i64 ((k0 + 2 * k + 1 : Nat) : Int))).1
        rw [ST] at O3
        generalize (spL (mkSp k0 k ++ L.drop k))[k * 2]'(by rw [spL_length]; omega) = u1 at *
        generalize (spL (mkSp k0 k ++ L.drop k))[k * 2 + 1]'(by rw [spL_length]; omega) = u2 at *
        have HO := Lib.hid O3
        have C3 := (hb.store (p := ⟨g, k * 2, none⟩) ⟨glo, ghi⟩ (.int .i64 ((k0 + 2 * k : Nat) : Int))).store (p := ⟨g, k * 2 + 1, none⟩) ⟨glo, ghi⟩ (.int .i64 ((k0 + 2 * k + 1 : Nat) : Int))
        have i0 : (0 : Int) ≤ (k : Int) := by omega
        have i1 : (k : Int) < (n : Int) := by omega
        clear O2 O3 ST hl hown
        go_wp2_with fail
        go_roundw
        case rel => exact ⟨k + 1, by omega, by go_num, by go_num, HO.out, C3⟩
        case measure => simp [intOf]; omega
    · obtain rfl : k = n := by omega
      have e1 : mkSp k0 k ++ L.drop k = mkSp k0 k := by rw [← HN.out, List.drop_length, List.append_nil]
      rw [e1] at hown
      have HO := Lib.hid hown
      clear hown e1
      go_wp2_with fail
      go_ret
      exact ⟨rfl, ⟨by rw [mkSp_len]; exact HO.out, HT.out⟩, hb⟩
set_option maxRecDepth 100000 in
set_option maxHeartbeats 1000000 in
theorem heldSpots_any (A : Option Addr) (c n k0 : Nat) (w : World) (hA : SpRd w A (mkSp k0 n)) (hn : n ≤ 1000000000) (hk0 : k0 ≤ 1000000000) :
    Calls Try.prog 39 #[.slice A n c, .int .i64 k0] w fun e w' => e = .returned (.int .i64 ((k0 + 2 * n : Nat) : Int)) ∧ Below w.heap.size w w' := by
  have AX := Lib.hid hA
  clear hA
  go_enter Try.func39, Try.ntmps39
  go_wp2_with fail
  go_loop [1, 5] (fun v i => ∃ k : Nat, k ≤ n ∧ i = .int .i64 k ∧ v = .int .i64 ((k0 + 2 * k : Nat) : Int)) (fun _ i => n - (intOf i).toNat)
  case atStart => exact ⟨0, Nat.zero_le _, rfl, rfl⟩
  case round =>
    obtain ⟨k, hk, rfl, rfl⟩ := hrel
    by_cases hlt : k < n
    · obtain ⟨g, rfl, gl, hcA⟩ := AX.out (by rw [mkSp_len]; omega)
      obtain ⟨c1, c2⟩ := hcA k (by rw [mkSp_len]; exact hlt)
      rw [mkSp_at hlt] at c1 c2
      simp only at c1 c2
      have i0 : (0 : Int) ≤ (k : Int) := by omega
      have i1 : (k : Int) < (n : Int) := by omega
      have t1 : (((k0 + 2 * k : Nat) : Int) != ((k0 + 2 * k : Nat) : Int)) = false := by simp
      have t2 : (((k0 + 2 * k + 1 : Nat) : Int) != ((k0 + 2 * k + 1 : Nat) : Int)) = false := by simp
      clear hcA
      go_wp2_with fail
      go_round
      case rel => exact ⟨k + 1, by omega, by go_num, by go_num⟩
      case measure => simp [intOf]; omega
    · obtain rfl : k = n := by omega
      go_wp2_with fail
      go_ret
      exact ⟨rfl, Ext.refl _⟩
open Go.ChangeShapes Go.WideShapes Go.ChangeAt Go.Deep in
set_option maxRecDepth 100000 in
theorem open_spots {H : Type} {enc : TypeId × Value → H} {W : World} {base : Nat} {v : Value} {d : DataW H} {p : List MemPlace} (hv : Value.okWide Try.prog W .any base 48 v)
    (h : DataW.Trod enc Try.prog W 0 (fun _ => true) true 48 v d p) : ∃ A c L, v = .slice A L.length c ∧ SpRdA W A L ∧ L.length ≤ maxLen := by
  obtain ⟨A, n, c, rfl⟩ := okWide_slice Try.underlying48 hv
  obtain ⟨fuel, hf⟩ := h
  rcases open_slice_pairs Try.underlying48 Try.underlying38 spotCells rfl rfl (by kernel_rfl) (by kernel_rfl) hf with ⟨hcs, _⟩ | ⟨a, len, cap, m, n', V0, V1, D0, D1, P0, P1, hcs, _, hl, hm, hmm, _, hi⟩
  · simp only [Value.cells, List.cons.injEq, and_true, Value.slice.injEq] at hcs
    obtain ⟨rfl, rfl, rfl⟩ := hcs
    exact ⟨none, 0, [], rfl, (fun h => by simp at h), Nat.zero_le _⟩
  · simp only [Value.cells, List.cons.injEq, and_true, Value.slice.injEq] at hcs
    obtain ⟨rfl, rfl, rfl⟩ := hcs
    simp only [if_true] at hmm
    have hx : ∀ i, i < m → ∃ x y : Int, W.cell? (a.add (i * 2)) = some (.int .i64 x) ∧ W.cell? (a.add (i * 2 + 1)) = some (.int .i64 y) := by
      intro i him
      obtain ⟨h1, h2, h3, h4⟩ := hi i him
      obtain ⟨x, e0, _, _⟩ := DataW.trod_int Try.underlying2 h3
      obtain ⟨y, e1, _, _⟩ := DataW.trod_int Try.underlying2 h4
      simp at e0 e1
      exact ⟨x, y, by rw [h1, e0], by rw [h2, e1]⟩
    let X : Nat → Int × Int := fun i => if him : i < m then (Classical.choose (hx i him), Classical.choose (Classical.choose_spec (hx i him))) else (0, 0)
    have hX : ∀ i, i < m → W.cell? (a.add (i * 2)) = some (.int .i64 (X i).1) ∧ W.cell? (a.add (i * 2 + 1)) = some (.int .i64 (X i).2) := by
      intro i him
      have := Classical.choose_spec (Classical.choose_spec (hx i him))
      simp only [X, dif_pos him]
      exact this
    refine ⟨some a, c, (List.range n).map X, by simp, fun hn => ⟨a, rfl, ?_, fun i hi => ?_⟩, by simp; omega⟩
    · have hn' : 0 < n := by simpa using hn
      have := World.block_lt_of_cell? W _ (hX 0 (by omega)).1
      rwa [Addr.add_block'] at this
    · have hi' : i < n := by simpa using hi
      have := hX i (by omega)
      simpa using this
end Go.Proofs.Ytbkgmegpgnmlpaa
