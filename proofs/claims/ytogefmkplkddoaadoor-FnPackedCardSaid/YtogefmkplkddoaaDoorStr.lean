/- The laws' own functions of lists of texts. -/
import Derived.Test.YtogefmkplkddoaaDoorTold
namespace Go.Proofs.YtogefmkplkddoaaDoor
open Go.RowKit

theorem Addr.add_block' (a : Addr) (i : Nat) : (a.add i).block = a.block := by
  unfold Addr.add; split <;> rfl
/-- A slice value's address reads as a list of one-cell values, wherever it points. -/
def RdA (w : World) (A : Option Addr) (xs : List Value) : Prop :=
  0 < xs.length → ∃ a, A = some a ∧ a.block < w.heap.size ∧ ∀ i (h : i < xs.length), w.cell? (a.add i) = some xs[i]
theorem RdA.ext {w w' : World} {A : Option Addr} {xs : List Value} (h : RdA w A xs) (hb : Below w.heap.size w w') : RdA w' A xs := by
  intro hn
  obtain ⟨a, e, ha, hc⟩ := h hn
  exact ⟨a, e, Nat.lt_of_lt_of_le ha hb.size, fun i hi => (hb.cell (by rw [Addr.add_block']; exact ha)).trans (hc i hi)⟩

theorem RdA.str {w : World} {A : Option Addr} {rows : List ByteArray} (h : RdA w A (strs rows)) : 0 < rows.length → ∃ a, A = some a ∧ a.block < w.heap.size ∧ ∀ i (h : i < rows.length), w.cell? (a.add i) = some (.string rows[i]) := by
  intro hn
  obtain ⟨a, e, ha, hc⟩ := h (by simpa [strs] using hn)
  exact ⟨a, e, ha, fun i hi => by rw [hc i (by simpa [strs] using hi)]; simp [strs]⟩
theorem Rd.str {w : World} {A : Option Addr} {rows : List ByteArray} (h : Rd w A (strs rows)) : 0 < rows.length → ∃ g, A = some ⟨g, 0, none⟩ ∧ g < w.heap.size ∧ ∀ i (h : i < rows.length), w.cell? ⟨g, i, none⟩ = some (.string rows[i]) := by
  intro hn
  obtain ⟨a, e, ha, hc⟩ := h (by simpa [strs] using hn)
  exact ⟨a, e, ha, fun i hi => by rw [hc i (by simpa [strs] using hi)]; simp [strs]⟩

theorem strInfo : (Tryd.prog.info? 9).map (fun i => (i.zero, i.size, i.bytes)) = some (some (.string ByteArray.empty), 1, 16) := by kernel_rfl
theorem own_made (w : World) (e : TypeId) (z : Value) (n : Nat) (hn : n ≤ maxLen) : (w.alloc (.cells (madeCells #[z] n) e)).ownsRow w.heap.size e 1 (.slice (some ⟨w.heap.size, 0, none⟩) n n) n (List.replicate n z) := by
  refine ⟨by simp, .inr ⟨w.heap.size, n, madeCells #[z] n, rfl, Nat.le_refl _, heap_alloc_new _ _, Nat.le_refl _, hn, ?_, ?_⟩⟩
  · rw [← Array.length_toList, toList_madeCells_one]; simp
  · rw [toList_madeCells_one]; simp
/-- The first k of a list, the rest as made. -/
def cpTo (z : Value) (xs : List Value) (k : Nat) : List Value := xs.take k ++ List.replicate (xs.length - k) z
theorem cpTo_zero (z : Value) (xs : List Value) : cpTo z xs 0 = List.replicate xs.length z := by simp [cpTo]
theorem cpTo_all (z : Value) (xs : List Value) : cpTo z xs xs.length = xs := by simp [cpTo]
theorem cpTo_length (z : Value) (xs : List Value) (k : Nat) (h : k ≤ xs.length) : (cpTo z xs k).length = xs.length := by simp [cpTo]; omega
theorem cpTo_succ (z : Value) (xs : List Value) (k : Nat) (hk : k < xs.length) : (cpTo z xs k).set k xs[k] = cpTo z xs (k + 1) := by
  have hm : (xs.take k).length = k := by simp; omega
  unfold cpTo
  rw [List.set_append_right _ _ (by omega), hm, Nat.sub_self, show xs.length - k = (xs.length - (k + 1)) + 1 by omega, List.replicate_succ, List.set_cons_zero]
  rw [show xs.take (k + 1) = xs.take k ++ [xs[k]] by rw [List.take_add_one, List.getElem?_eq_getElem hk]; rfl, List.append_assoc]
  rfl

set_option maxHeartbeats 400000 in
theorem eqStrs_any (A B : Option Addr) (c d : Nat) (rows : List ByteArray) (w : World) (hA : Rd w A (strs rows)) (hB : Rd w B (strs rows)) (hn : rows.length ≤ 1000000000) :
    Calls Tryd.prog 54 #[.slice A rows.length c, .slice B rows.length d] w fun e w' => e = .returned (.bool true) ∧ ∃ k, w' = w.drewN k := by
  have XA := Lib.hid hA.str
  have XB := Lib.hid hB.str
  obtain ⟨n, hnL⟩ : ∃ n, rows.length = n := ⟨_, rfl⟩
  have t0 : ((n : Int) != n) = false := by simp
  rw [hnL] at hn ⊢
  clear hA hB
  go_enter Tryd.func54, Tryd.ntmps54
  go_wp2_with fail
  go_loopw [5] (fun i wr => ∃ k j : Nat, k ≤ n ∧ i = .int .i64 k ∧ wr = w.drewN j) (fun i _ => n - (intOf i).toNat)
  case atStart => exact ⟨0, 0, Nat.zero_le _, rfl, rfl⟩
  case round =>
    obtain ⟨k, j, hk, rfl, rfl⟩ := hrel
    by_cases hlt : k < n
    · have ZA := XA.out
      have ZB := XB.out
      obtain ⟨g, rfl, hg, hcA⟩ := ZA (by omega)
      obtain ⟨g', rfl, hg', hcB⟩ := ZB (by omega)
      have c1 := hcA k (by omega)
      have c2 := hcB k (by omega)
      clear hcA hcB ZA ZB
      generalize rows[k] = x at *
      have i0 : (0 : Int) ≤ (k : Int) := by omega
      have i1 : (k : Int) < (n : Int) := by omega
      go_wp2_with fail
      go_quiet (fail)
      go_wp2_with fail
      go_roundw
      case rel => exact ⟨k + 1, _, by omega, by go_num, rfl⟩
      case measure => simp [intOf]; omega
    · obtain rfl : k = n := by omega
      go_wp2_with fail
      go_ret
      exact ⟨rfl, j, rfl⟩
end Go.Proofs.YtogefmkplkddoaaDoor
