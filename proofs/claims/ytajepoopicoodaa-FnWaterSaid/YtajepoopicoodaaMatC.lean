/- Matrices that came in: the copy. -/
import Derived.Test.YtajepoopicoodaaMatB
namespace Go.Proofs.Ytajepoopicoodaa
open Go.RowKit

set_option maxHeartbeats 1000000 in
theorem toMat_any (A : Option Addr) (c : Nat) (rows : List (List Int)) (w : World) (h : MatRdA w A rows) (hn : rows.length ≤ 1048576) (hsz : ∀ r ∈ rows, r.length ≤ 1048576) :
    Calls Try.prog 55 #[.slice A rows.length c] w fun e w' => ∃ A' c' vs, e = .returned (.slice A' rows.length c') ∧ MatAt w' w.heap.size w'.heap.size A' c' vs rows ∧ Below w.heap.size w w' := by
  obtain ⟨i0, hi, hz0, hz1, hz2⟩ := info_parts rowT.info
  have EX := Lib.hid (fun V (hb : Below w.heap.size w V) => h.ext hb)
  have SZ := Lib.hid hsz
  clear h hsz
  obtain ⟨n, hnL⟩ : ∃ n, rows.length = n := ⟨_, rfl⟩
  have HN := Lib.hid hnL
  rw [hnL] at hn
  have hmk : (Instr.makeSlice 22 (.int .i64 (n : Int)) (.int .i64 (n : Int))).run Try.prog w = .ok (.slice (some ⟨w.heap.size, 0, none⟩) n n) (w.alloc (.cells (madeCells #[.slice none 0 0] n) 51)) := by
    have h := run_make (P := Try.prog) w 22 51 i0 _ Try.underlying22 hi hz0 .i64 .i64 (n : Int) (n : Int) (by omega) (Int.le_refl _) (by rw [hz2]; omega) (by omega)
    rw [h, hz1, Int.toNat_natCast]
    show Result.ok _ (w.alloc (.cells (madeCells #[.slice none 0 0] (n * 1)) _)) = _
    rw [Nat.mul_one]
  have hown0 := own_made w 51 (.slice none 0 0) n (by unfold maxLen; omega)
  have M0 : MatTo w.heap.size w rows (List.replicate n (.slice none 0 0)) n 0 (w.alloc (.cells (madeCells #[.slice none 0 0] n) 51)) :=
    ⟨hown0, fun i _ h => absurd h (Nat.not_lt_zero _), fun i _ _ _ _ h => absurd h (Nat.not_lt_zero _), Ext.more (Ext.refl _) _⟩
  have hB0 : w.heap.size ≤ (w.alloc (.cells (madeCells #[.slice none 0 0] n) 51)).heap.size := (Ext.more (Ext.refl w) _).size
  clear hi hz0 hz1 hz2 hown0
  have FIN : Hid (∀ (us : List Value) (w' : World), MatTo w.heap.size w rows us n n w' → ∃ A' c' vs, Ending.returned (.slice (some ⟨w.heap.size, 0, none⟩) n n) = .returned (.slice A' n c') ∧ MatAt w' w.heap.size w'.heap.size A' c' vs rows ∧ Below w.heap.size w w') := by
    intro us w' hm
    refine ⟨some ⟨w.heap.size, 0, none⟩, n, us, rfl, ⟨by rw [hnL]; exact hm.outer, fun a ha => by cases ha; exact (hm.outer.lt _ rfl).2, fun i hi => ?_, fun i j u v g hij hu hv hg => ?_⟩, hm.ext⟩
    · obtain ⟨Ai, ci, h1, h2⟩ := hm.row i hi (by omega)
      exact ⟨Ai, ci, h1, h2, fun a ha => by subst ha; exact (h2.lt _ rfl).2⟩
    · have hul : us.length = n := by have := hm.outer.1; omega
      have hi := (List.getElem?_eq_some_iff.1 hu).1
      have hj := (List.getElem?_eq_some_iff.1 hv).1
      exact hm.apart i j u v g (by omega) (by omega) hij hu hv hg
  rw [hnL]
  clear hnL
  go_enter Try.func55, Try.ntmps55
  go_wp2_with fail
  generalize w.alloc (.cells (madeCells #[.slice none 0 0] n) 51) = w0 at *
  clear hmk
  go_loopw [4] (fun i wr => ∃ (k : Nat) (us : List Value), k ≤ n ∧ i = .int .i64 k ∧ w.heap.size ≤ wr.heap.size ∧ MatTo w.heap.size w rows us n k wr) (fun i _ => n - (intOf i).toNat)
  case atStart => exact ⟨0, _, Nat.zero_le _, rfl, hB0, M0⟩
  case round =>
    obtain ⟨k, us, hk, rfl, hB, hm⟩ := hrel
    clear M0 hB0
    by_cases hlt : k < n
    · have hk' : k < rows.length := by have := HN.out; omega
      obtain ⟨a, rfl, hg, hc⟩ := (EX.out wr hm.ext) (by omega)
      obtain ⟨Ak, ck, c1, r1⟩ := hc k hk'
      have TI := Lib.hid (toInts_any Ak ck rows[k] wr r1 (SZ.out _ (List.getElem_mem _)))
      have HM := Lib.hid hm
      have ST := Lib.hid (fun (w' : World) (A' : Option Addr) (c' : Nat) (ho : w'.ownsRow wr.heap.size 2 1 (.slice A' rows[k].length c') rows[k].length (ints rows[k])) (hb : Below wr.heap.size wr w') => hm.step hB hk' HN.out ho hb)
      have hul : us.length = n := by have := hm.outer.1; omega
      clear hc r1 hm
      have i0 : (0 : Int) ≤ (k : Int) := by omega
      have i1 : (k : Int) < (n : Int) := by omega
      generalize hrk : rows[k].length = m at *
      go_wp2_with fail
      refine TI.out.mono ?_
      rintro e w2 ⟨A2, c2, rfl, ho, hb⟩
      have h1 := own_ext hb HM.out.outer
      have cB := h1.cellAt k (by omega)
      have fB := h1.frozenAt k
      rw [List.getElem?_eq_getElem (by omega)] at cB
      have S2 := Lib.hid (ST.out w2 A2 c2 ho hb)
      have hsz2 := hb.size
      generalize us[k]'(by omega) = u at *
      clear h1 ho hb
      go_wp2_with fail
      go_roundw
      case rel => exact ⟨k + 1, _, by omega, by go_num, by simp [World.setCell]; omega, S2.out⟩
      case measure => simp [intOf]; omega
    · obtain rfl : k = n := by omega
      have HF := Lib.hid (FIN.out us wr hm)
      clear hm
      go_wp2_with fail
      go_ret
      exact HF.out
end Go.Proofs.Ytajepoopicoodaa
