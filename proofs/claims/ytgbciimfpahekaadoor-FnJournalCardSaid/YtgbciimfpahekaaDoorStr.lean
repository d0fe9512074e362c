/- The laws' own functions of lists of texts. -/
import Derived.Test.YtgbciimfpahekaaDoorTold
namespace Go.Proofs.YtgbciimfpahekaaDoor
open Go.RowKit

theorem Addr.add_block' (a : Addr) (i : Nat) : (a.add i).block = a.block := by
  unfold Addr.add; split <;> rfl
/-- A slice value's address reads as a list of one-cell values, wherever it points. -/
def RdA (w : World) (A : Option Addr) (xs : List Value) : Prop :=
  0 < xs.length → ∃ a, A = some a ∧ a.block < w.heap.size ∧ ∀ i (h : i < xs.length), w.cell? (a.add i) = some xs[i]
theorem RdA.ext {w w' : World} {A : Option Addr} {xs : List Value} (h : RdA w A xs) (hb : Below w.heap.size w w') : RdA w' A xs := by
  intro hn
  obtain ⟨a, e, ha, hc⟩ := h hn
  exact ⟨a, e, Nat.lt_of_lt_of_le ha hb.size, fun i hi => (hb.cell (by rw [Addr.add_block']; exact ha)).trans (hc i hi)⟩

theorem RdA.str {w : World} {A : Option Addr} {rows : List ByteArray} (h : RdA w A (strs rows)) : 0 < rows.length → ∃ a, A = some a ∧ a.block < w.heap.size ∧ ∀ i (h : i < rows.length), w.cell? (a.add i) = some (.string rows[i]) := by
  intro hn
  obtain ⟨a, e, ha, hc⟩ := h (by simpa [strs] using hn)
  exact ⟨a, e, ha, fun i hi => by rw [hc i (by simpa [strs] using hi)]; simp [strs]⟩
theorem Rd.str {w : World} {A : Option Addr} {rows : List ByteArray} (h : Rd w A (strs rows)) : 0 < rows.length → ∃ g, A = some ⟨g, 0, none⟩ ∧ g < w.heap.size ∧ ∀ i (h : i < rows.length), w.cell? ⟨g, i, none⟩ = some (.string rows[i]) := by
  intro hn
  obtain ⟨a, e, ha, hc⟩ := h (by simpa [strs] using hn)
  exact ⟨a, e, ha, fun i hi => by rw [hc i (by simpa [strs] using hi)]; simp [strs]⟩

set_option maxHeartbeats 400000 in
theorem szStrs_any (A : Option Addr) (c : Nat) (rows : List ByteArray) (l0 : Nat) (hl : l0 ≤ 1048576) (w : World) (h : RdA w A (strs rows)) (hn : rows.length ≤ maxLen) (hsz : ∀ r ∈ rows, r.size ≤ maxLen) :
    Calls Tryd.prog 6 #[.slice A rows.length c, .int .i64 l0] w fun e w' => (∃ r : Int, e = .returned (.int .i64 r) ∧ (r < 0 ∨ rows.length ≤ l0)) ∧ w = w' := by
  unfold maxLen at hn hsz
  have SZ := Lib.hid hsz
  clear hsz
  have HX := Lib.hid h.str
  clear h
  obtain ⟨n, hnL⟩ : ∃ n, rows.length = n := ⟨_, rfl⟩
  rw [hnL] at hn ⊢
  have i0 : IntKind.i64.wrap ((l0 : Int) - n) = (l0 : Int) - n := IntWalk.i64_in _ (by omega)
  by_cases h1 : (l0 : Int) - n < 0
  · go_enter Tryd.func6, Tryd.ntmps6
    go_wp2_with fail
    go_ret
    exact ⟨⟨-1, rfl, .inl (by decide)⟩, rfl⟩
  · have t1 : ¬ ((l0 : Int) - n < 0) := h1
    have HLE : Hid (n ≤ l0) := by show n ≤ l0; omega
    go_enter Tryd.func6, Tryd.ntmps6
    go_wp2_with fail
    go_loop [1, 5] (fun v i => ∃ (k : Nat) (l : Int), k ≤ n ∧ i = .int .i64 k ∧ v = .int .i64 l ∧ 0 ≤ l ∧ l ≤ 1048576) (fun _ i => n - (intOf i).toNat)
    case atStart => exact ⟨0, _, Nat.zero_le _, rfl, rfl, by omega, by omega⟩
    case round =>
      obtain ⟨k, l, hk, rfl, rfl, hl0, hl1⟩ := hrel
      by_cases hlt : k < n
      · have X := HX.out
        obtain ⟨a, rfl, hg, hc⟩ := X (by omega)
        have c1 := hc k (by omega)
        clear hc X
        have hrz := SZ.out rows[k] (List.getElem_mem _)
        generalize rows[k] = r at *
        have i2 : (0 : Int) ≤ (k : Int) := by omega
        have i3 : (k : Int) < (n : Int) := by omega
        have hz : (0 : Int) ≤ (r.size : Int) := by omega
        · have i4 : IntKind.i64.wrap (l - r.size) = l - r.size := IntWalk.i64_in _ (by omega)
          by_cases h2 : l - (r.size : Int) < 0
          · go_wp2_with fail
            go_ret
            exact ⟨⟨-1, rfl, .inl (by decide)⟩, rfl⟩
          · go_wp2_with fail
            go_round
            case rel => exact ⟨k + 1, _, by omega, by go_num, rfl, by omega, by omega⟩
            case measure => simp [intOf]; omega
      · obtain rfl : k = n := by omega
        go_wp2_with fail
        go_ret
        exact ⟨⟨l, rfl, .inr HLE.out⟩, rfl⟩

theorem strInfo : (Tryd.prog.info? 9).map (fun i => (i.zero, i.size, i.bytes)) = some (some (.string ByteArray.empty), 1, 16) := by kernel_rfl
theorem own_made (w : World) (e : TypeId) (z : Value) (n : Nat) (hn : n ≤ maxLen) : (w.alloc (.cells (madeCells #[z] n) e)).ownsRow w.heap.size e 1 (.slice (some ⟨w.heap.size, 0, none⟩) n n) n (List.replicate n z) := by
  refine ⟨by simp, .inr ⟨w.heap.size, n, madeCells #[z] n, rfl, Nat.le_refl _, heap_alloc_new _ _, Nat.le_refl _, hn, ?_, ?_⟩⟩
  · rw [← Array.length_toList, toList_madeCells_one]; simp
  · rw [toList_madeCells_one]; simp
/-- The first k of a list, the rest as made. -/
def cpTo (z : Value) (xs : List Value) (k : Nat) : List Value := xs.take k ++ List.replicate (xs.length - k) z
theorem cpTo_zero (z : Value) (xs : List Value) : cpTo z xs 0 = List.replicate xs.length z := by simp [cpTo]
theorem cpTo_all (z : Value) (xs : List Value) : cpTo z xs xs.length = xs := by simp [cpTo]
theorem cpTo_length (z : Value) (xs : List Value) (k : Nat) (h : k ≤ xs.length) : (cpTo z xs k).length = xs.length := by simp [cpTo]; omega
theorem cpTo_succ (z : Value) (xs : List Value) (k : Nat) (hk : k < xs.length) : (cpTo z xs k).set k xs[k] = cpTo z xs (k + 1) := by
  have hm : (xs.take k).length = k := by simp; omega
  unfold cpTo
  rw [List.set_append_right _ _ (by omega), hm, Nat.sub_self, show xs.length - k = (xs.length - (k + 1)) + 1 by omega, List.replicate_succ, List.set_cons_zero]
  rw [show xs.take (k + 1) = xs.take k ++ [xs[k]] by rw [List.take_add_one, List.getElem?_eq_getElem hk]; rfl, List.append_assoc]
  rfl

set_option maxHeartbeats 400000 in
theorem toStrs_any (A : Option Addr) (c : Nat) (rows : List ByteArray) (w : World) (h : RdA w A (strs rows)) (hn : rows.length ≤ 1048576) :
    Calls Tryd.prog 8 #[.slice A rows.length c] w fun e w' => ∃ A' c', e = .returned (.slice A' rows.length c') ∧
      w'.ownsRow w.heap.size 9 1 (.slice A' rows.length c') rows.length (strs rows) ∧ Below w.heap.size w w' := by
  obtain ⟨i0, hi, hz0, hz1, hz2⟩ := info_parts strInfo
  have EX := Lib.hid (fun V (hb : Below w.heap.size w V) => (h.ext hb).str)
  clear h
  have hlen : (strs rows).length = rows.length := by simp [strs]
  have CP := Lib.hid (fun k hk => cpTo_succ (.string ByteArray.empty) (strs rows) k hk)
  have CA := Lib.hid (cpTo_all (.string ByteArray.empty) (strs rows))
  have CL := Lib.hid (fun k h => cpTo_length (.string ByteArray.empty) (strs rows) k h)
  obtain ⟨n, hnL⟩ : ∃ n, rows.length = n := ⟨_, rfl⟩
  rw [hnL] at hn hlen ⊢
  have hmk : (Instr.makeSlice 22 (.int .i64 (n : Int)) (.int .i64 (n : Int))).run Tryd.prog w = .ok (.slice (some ⟨w.heap.size, 0, none⟩) n n) (w.alloc (.cells (madeCells #[.string ByteArray.empty] n) 9)) := by
    have h := run_make (P := Tryd.prog) w 22 9 i0 _ Tryd.underlying22 hi hz0 .i64 .i64 (n : Int) (n : Int) (by omega) (Int.le_refl _) (by rw [hz2]; omega) (by omega)
    rw [h, hz1, Int.toNat_natCast]
    show Result.ok _ (w.alloc (.cells (madeCells #[.string ByteArray.empty] (n * 1)) _)) = _
    rw [Nat.mul_one]
  have hown0 := own_made w 9 (.string ByteArray.empty) n (by unfold maxLen; omega)
  rw [show List.replicate n (Value.string ByteArray.empty) = cpTo (.string ByteArray.empty) (strs rows) 0 by rw [cpTo_zero, hlen]] at hown0
  have hb0 : Below w.heap.size w (w.alloc (.cells (madeCells #[.string ByteArray.empty] n) 9)) := Ext.more (Ext.refl _) _
  clear hi hz0 hz1 hz2
  go_enter Tryd.func8, Tryd.ntmps8
  go_wp2_with fail
  generalize w.alloc (.cells (madeCells #[.string ByteArray.empty] n) 9) = w0 at *
  clear hmk
  obtain ⟨B, hB⟩ : ∃ B, w.heap.size = B := ⟨_, rfl⟩
  rw [hB] at hown0 hb0 EX ⊢
  have HLEN := Lib.hid hlen
  have HNL := Lib.hid hnL
  clear hlen hnL
  go_loopw [4] (fun i wr => ∃ k : Nat, k ≤ n ∧ i = .int .i64 k ∧ wr.ownsRow B 9 1 (.slice (some ⟨B, 0, none⟩) n n) n (cpTo (.string ByteArray.empty) (strs rows) k) ∧ Below B w wr) (fun i _ => n - (intOf i).toNat)
  case atStart => exact ⟨0, Nat.zero_le _, rfl, hown0, hb0⟩
  case round =>
    obtain ⟨k, hk, rfl, hown, hb⟩ := hrel
    clear hown0 hb0
    by_cases hlt : k < n
    · have X := EX.out wr hb
      obtain ⟨a, rfl, hg, hc⟩ := X (by have := HNL.out; omega)
      have c1 := hc k (by have := HNL.out; omega)
      have c2 := hown.cellAt k (by omega)
      have f2 := hown.frozenAt k
      have e1 := CP.out k (by have := HLEN.out; omega)
      rw [show (strs rows)[k]'(by have := HLEN.out; omega) = .string (rows[k]'(by have := HNL.out; omega)) by simp [strs]] at e1
      have hl1 : k < (cpTo (.string ByteArray.empty) (strs rows) k).length := by rw [CL.out k (by have := HLEN.out; omega)]; have := HLEN.out; omega
      have hl2 : k < rows.length := by have := HNL.out; omega
      rw [List.getElem?_eq_getElem hl1] at c2
      have hst := hown.stored k (.string (rows[k]'(by have := HNL.out; omega)))
      rw [e1] at hst
      clear hc X e1
      generalize (cpTo (.string ByteArray.empty) (strs rows) k)[k]'hl1 = u at *
      generalize rows[k]'hl2 = r at *
      have HST := Lib.hid hst
      have i0 : (0 : Int) ≤ (k : Int) := by omega
      have i1 : (k : Int) < (n : Int) := by omega
      clear hst hown
      go_wp2_with fail
      go_roundw
      case rel => exact ⟨k + 1, by omega, by go_num, HST.out.1, hb.setCell (p := ⟨B, k, none⟩) (Nat.le_refl _) _⟩
      case measure => simp [intOf]; omega
    · obtain rfl : k = n := by omega
      have e : cpTo (.string ByteArray.empty) (strs rows) k = strs rows := by have h1 := CA.out; have h2 := HLEN.out; rw [h2] at h1; exact h1
      rw [e] at hown
      clear e
      go_wp2_with fail
      go_ret
      exact ⟨_, _, rfl, by rw [hB]; exact hown, by rw [hB]; exact hb⟩

set_option maxHeartbeats 400000 in
theorem eqStrs_any (A B : Option Addr) (c d : Nat) (rows : List ByteArray) (w : World) (hA : Rd w A (strs rows)) (hB : Rd w B (strs rows)) (hn : rows.length ≤ 1000000000) :
    Calls Tryd.prog 10 #[.slice A rows.length c, .slice B rows.length d] w fun e w' => e = .returned (.bool true) ∧ ∃ k, w' = w.drewN k := by
  have XA := Lib.hid hA.str
  have XB := Lib.hid hB.str
  obtain ⟨n, hnL⟩ : ∃ n, rows.length = n := ⟨_, rfl⟩
  have t0 : ((n : Int) != n) = false := by simp
  rw [hnL] at hn ⊢
  clear hA hB
  go_enter Tryd.func10, Tryd.ntmps10
  go_wp2_with fail
  go_loopw [5] (fun i wr => ∃ k j : Nat, k ≤ n ∧ i = .int .i64 k ∧ wr = w.drewN j) (fun i _ => n - (intOf i).toNat)
  case atStart => exact ⟨0, 0, Nat.zero_le _, rfl, rfl⟩
  case round =>
    obtain ⟨k, j, hk, rfl, rfl⟩ := hrel
    by_cases hlt : k < n
    · have ZA := XA.out
      have ZB := XB.out
      obtain ⟨g, rfl, hg, hcA⟩ := ZA (by omega)
      obtain ⟨g', rfl, hg', hcB⟩ := ZB (by omega)
      have c1 := hcA k (by omega)
      have c2 := hcB k (by omega)
      clear hcA hcB ZA ZB
      generalize rows[k] = x at *
      have i0 : (0 : Int) ≤ (k : Int) := by omega
      have i1 : (k : Int) < (n : Int) := by omega
      go_wp2_with fail
      go_quiet (fail)
      go_wp2_with fail
      go_roundw
      case rel => exact ⟨k + 1, _, by omega, by go_num, rfl⟩
      case measure => simp [intOf]; omega
    · obtain rfl : k = n := by omega
      go_wp2_with fail
      go_ret
      exact ⟨rfl, j, rfl⟩
end Go.Proofs.YtgbciimfpahekaaDoor
