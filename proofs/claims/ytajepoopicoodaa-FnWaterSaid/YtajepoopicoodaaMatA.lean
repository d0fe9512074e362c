/- Matrices of numbers that came in: their size, a copy of them. -/
import Derived.Test.YtajepoopicoodaaMat
namespace Go.Proofs.Ytajepoopicoodaa
open Go.RowKit

def MatRdA (w : World) (A : Option Addr) (rows : List (List Int)) : Prop :=
  0 < rows.length → ∃ a, A = some a ∧ a.block < w.heap.size ∧ ∀ i (h : i < rows.length), ∃ Ai ci, w.cell? (a.add i) = some (.slice Ai rows[i].length ci) ∧ RdA w Ai (ints rows[i])
theorem MatRdA.ext {w w' : World} {A : Option Addr} {rows : List (List Int)} (h : MatRdA w A rows) (hb : Below w.heap.size w w') : MatRdA w' A rows := by
  intro hn
  obtain ⟨g, e, hg, hc⟩ := h hn
  refine ⟨g, e, Nat.lt_of_lt_of_le hg hb.size, fun i hi => ?_⟩
  obtain ⟨Ai, ci, h1, h2⟩ := hc i hi
  exact ⟨Ai, ci, (hb.cell (by rw [Addr.add_block']; exact hg)).trans h1, h2.ext hb⟩
theorem RdA.int {w : World} {A : Option Addr} {L : List Int} (h : RdA w A (ints L)) : 0 < L.length → ∃ a, A = some a ∧ a.block < w.heap.size ∧ ∀ i (h : i < L.length), w.cell? (a.add i) = some (.int .i64 L[i]) := by
  intro hn
  obtain ⟨a, e, ha, hc⟩ := h (by simpa [ints] using hn)
  exact ⟨a, e, ha, fun i hi => by rw [hc i (by simpa [ints] using hi)]; simp [ints]⟩

theorem szInts_any (A : Option Addr) (n c l0 : Nat) (hl : l0 ≤ 1048576) (hn : n ≤ maxLen) (w : World) :
    Calls Try.prog 86 #[.slice A n c, .int .i64 l0] w fun e w' => (∃ r : Int, e = .returned (.int .i64 r) ∧ (r < 0 ∨ n ≤ l0 ∧ r = ((l0 - n : Nat) : Int))) ∧ w = w' := by
  unfold maxLen at hn
  have i0 : IntKind.i64.wrap ((l0 : Int) - n) = (l0 : Int) - n := IntWalk.i64_in _ (by omega)
  by_cases h1 : (l0 : Int) - n < 0
  · go_enter Try.func86, Try.ntmps86
    go_wp2_with fail
    go_ret
    exact ⟨⟨-1, rfl, .inl (by decide)⟩, rfl⟩
  · have H1 := Lib.hid h1
    go_enter Try.func86, Try.ntmps86
    go_wp2_with fail
    go_ret
    exact ⟨⟨(l0 : Int) - n, rfl, .inr ⟨by have := H1.out; omega, by have := H1.out; omega⟩⟩, rfl⟩

set_option maxHeartbeats 400000 in
theorem toInts_any (A : Option Addr) (c : Nat) (rows : List Int) (w : World) (h : RdA w A (ints rows)) (hn : rows.length ≤ 1048576) :
    Calls Try.prog 88 #[.slice A rows.length c] w fun e w' => ∃ A' c', e = .returned (.slice A' rows.length c') ∧
      w'.ownsRow w.heap.size 2 1 (.slice A' rows.length c') rows.length (ints rows) ∧ Below w.heap.size w w' := by
  obtain ⟨i0, hi, hz0, hz1, hz2⟩ := info_parts intT.info
  have EX := Lib.hid (fun V (hb : Below w.heap.size w V) => (h.ext hb).int)
  clear h
  have hlen : (ints rows).length = rows.length := by simp [ints]
  have CP := Lib.hid (fun k hk => cpTo_succ (.int .i64 0) (ints rows) k hk)
  have CA := Lib.hid (cpTo_all (.int .i64 0) (ints rows))
  have CL := Lib.hid (fun k h => cpTo_length (.int .i64 0) (ints rows) k h)
  obtain ⟨n, hnL⟩ : ∃ n, rows.length = n := ⟨_, rfl⟩
  rw [hnL] at hn hlen ⊢
  have hmk : (Instr.makeSlice 51 (.int .i64 (n : Int)) (.int .i64 (n : Int))).run Try.prog w = .ok (.slice (some ⟨w.heap.size, 0, none⟩) n n) (w.alloc (.cells (madeCells #[.int .i64 0] n) 2)) := by
    have h := run_make (P := Try.prog) w 51 2 i0 _ Try.underlying51 hi hz0 .i64 .i64 (n : Int) (n : Int) (by omega) (Int.le_refl _) (by rw [hz2]; omega) (by omega)
    rw [h, hz1, Int.toNat_natCast]
    show Result.ok _ (w.alloc (.cells (madeCells #[.int .i64 0] (n * 1)) _)) = _
    rw [Nat.mul_one]
  have hown0 := own_made w 2 (.int .i64 0) n (by unfold maxLen; omega)
  rw [show List.replicate n (Value.int .i64 0) = cpTo (.int .i64 0) (ints rows) 0 by rw [cpTo_zero, hlen]] at hown0
  have hb0 : Below w.heap.size w (w.alloc (.cells (madeCells #[.int .i64 0] n) 2)) := Ext.more (Ext.refl _) _
  clear hi hz0 hz1 hz2
  go_enter Try.func88, Try.ntmps88
  go_wp2_with fail
  generalize w.alloc (.cells (madeCells #[.int .i64 0] n) 2) = w0 at *
  clear hmk
  obtain ⟨B, hB⟩ : ∃ B, w.heap.size = B := ⟨_, rfl⟩
  rw [hB] at hown0 hb0 EX ⊢
  have HLEN := Lib.hid hlen
  have HNL := Lib.hid hnL
  clear hlen hnL
  go_loopw [4] (fun i wr => ∃ k : Nat, k ≤ n ∧ i = .int .i64 k ∧ wr.ownsRow B 2 1 (.slice (some ⟨B, 0, none⟩) n n) n (cpTo (.int .i64 0) (ints rows) k) ∧ Below B w wr) (fun i _ => n - (intOf i).toNat)
  case atStart => exact ⟨0, Nat.zero_le _, rfl, hown0, hb0⟩
  case round =>
    obtain ⟨k, hk, rfl, hown, hb⟩ := hrel
    clear hown0 hb0
    by_cases hlt : k < n
    · have X := EX.out wr hb
      obtain ⟨a, rfl, hg, hc⟩ := X (by have := HNL.out; omega)
      have c1 := hc k (by have := HNL.out; omega)
      have c2 := hown.cellAt k (by omega)
      have f2 := hown.frozenAt k
      have e1 := CP.out k (by have := HLEN.out; omega)
      rw [show (ints rows)[k]'(by have := HLEN.out; omega) = .int .i64 (rows[k]'(by have := HNL.out; omega)) by simp [ints]] at e1
      have hl1 : k < (cpTo (.int .i64 0) (ints rows) k).length := by rw [CL.out k (by have := HLEN.out; omega)]; have := HLEN.out; omega
      have hl2 : k < rows.length := by have := HNL.out; omega
      rw [List.getElem?_eq_getElem hl1] at c2
      have hst := hown.stored k (.int .i64 (rows[k]'(by have := HNL.out; omega)))
      rw [e1] at hst
      clear hc X e1
      generalize (cpTo (.int .i64 0) (ints rows) k)[k]'hl1 = u at *
      generalize rows[k]'hl2 = r at *
      have HST := Lib.hid hst
      have i0 : (0 : Int) ≤ (k : Int) := by omega
      have i1 : (k : Int) < (n : Int) := by omega
      clear hst hown
      go_wp2_with fail
      go_roundw
      case rel => exact ⟨k + 1, by omega, by go_num, HST.out.1, hb.setCell (p := ⟨B, k, none⟩) (Nat.le_refl _) _⟩
      case measure => simp [intOf]; omega
    · obtain rfl : k = n := by omega
      have e : cpTo (.int .i64 0) (ints rows) k = ints rows := by have h1 := CA.out; have h2 := HLEN.out; rw [h2] at h1; exact h1
      rw [e] at hown
      clear e
      go_wp2_with fail
      go_ret
      exact ⟨_, _, rfl, by rw [hB]; exact hown, by rw [hB]; exact hb⟩


end Go.Proofs.Ytajepoopicoodaa
