/- Two lists of numbers compared: slices.Equal and the reference's own. -/
import Derived.Test.YtkamkjbllmgifaaEq
namespace Go.Proofs.Ytkamkjbllmgifaa
open Go.RowKit

theorem ints_cell {w : World} {A : Option Addr} {L : List Int} (h : Rd w A (ints L)) {k : Nat} (hk : k < L.length) : ∃ g, A = some ⟨g, 0, none⟩ ∧ g < w.heap.size ∧ w.cell? ⟨g, k, none⟩ = some (.int .i64 (L.getD k 0)) := by
  obtain ⟨g, e, hg, hc⟩ := h (by simp [ints]; omega)
  have := hc k (by simpa [ints] using hk)
  exact ⟨g, e, hg, by rw [this]; simp [ints, List.getD_eq_getElem?_getD, hk]⟩
theorem eqL_no {L M : List Int} {k : Nat} (h : L.getD k 0 ≠ M.getD k 0) : decide (L = M) = false := by
  rw [decide_eq_false_iff_not]; rintro rfl; exact h rfl
theorem eqL_yes {L M : List Int} (hl : L.length = M.length) (h : ∀ k, k < L.length → L.getD k 0 = M.getD k 0) : decide (L = M) = true := by
  rw [decide_eq_true_iff]
  apply List.ext_getElem hl
  intro i h1 h2
  have := h i h1
  simpa [List.getD_eq_getElem?_getD, h1, h2] using this
set_option maxRecDepth 100000 in
set_option maxHeartbeats 1000000 in
theorem slicesEqual_any (A B : Option Addr) (ca cb n m : Nat) (L M : List Int) (w : World) (hA : Rd w A (ints L)) (hB : Rd w B (ints M)) (hl : L.length = n) (hm : M.length = m) (hn : n ≤ 1000000000) (hn2 : m ≤ 1000000000) :
    Calls Try.prog 92 #[.slice A n ca, .slice B m cb] w fun e w' => e = .returned (.bool (decide (L = M))) ∧ ∃ k, w' = w.drewN k := by
  by_cases hnm : n = m
  · subst hnm
    have t0 : ((n : Int) != (n : Int)) = false := by simp
    have NO := Lib.hid (fun k => @eqL_no L M k)
    have YES := Lib.hid (fun (h : ∀ k, k < n → L.getD k 0 = M.getD k 0) => eqL_yes (L := L) (M := M) (by omega) (by rw [hl]; exact h))
    have CA := Lib.hid (fun k (h : k < n) => ints_cell hA (k := k) (by omega))
    have CB := Lib.hid (fun k (h : k < n) => ints_cell hB (k := k) (by omega))
    clear hA hB hl hm
    generalize decide (L = M) = r at *
    go_enter Try.func92, Try.ntmps92
    go_wp2_with fail
    go_loopw [5, 13] (fun _ i wr => ∃ k j : Nat, k ≤ n ∧ i = .int .i64 k ∧ wr = w.drewN j ∧ Hid (∀ q, q < k → L.getD q 0 = M.getD q 0)) (fun _ i _ => n - (intOf i).toNat)
    case atStart => exact ⟨0, 0, Nat.zero_le _, rfl, rfl, fun q h => absurd h (Nat.not_lt_zero _)⟩
    case round =>
      obtain ⟨k, j, hk, rfl, rfl, hall⟩ := hrel
      by_cases hlt : k < n
      · obtain ⟨g, rfl, hg, c1⟩ := CA.out k hlt
        obtain ⟨g', rfl, hg', c2⟩ := CB.out k hlt
        have NK := Lib.hid (NO.out k)
        have SU := Lib.hid (fun (h : L.getD k 0 = M.getD k 0) q (hq : q < k + 1) => (show L.getD q 0 = M.getD q 0 from by
          rcases Nat.lt_succ_iff_lt_or_eq.1 hq with h1 | h1
          · exact hall q h1
          · rw [h1]; exact h))
        clear hall
        generalize L.getD k 0 = x at *
        generalize M.getD k 0 = y at *
        have i0 : (0 : Int) ≤ (k : Int) := by omega
        have i1 : (k : Int) < (n : Int) := by omega
        by_cases he : x = y
        · have S1 := Lib.hid (SU.out he)
          have t1 : (x != y) = false := by simp [he]
          clear he SU NK
          go_wp2_with fail
          go_quiet (fail)
          go_wp2_with fail
          go_roundw
          case rel => exact ⟨k + 1, j + nq, by omega, by go_num, rfl, S1.out⟩
          case measure => simp [intOf]; omega
        · have N1 := Lib.hid (NK.out he)
          have t1 : (x != y) = true := by simpa using he
          clear he SU NK
          go_wp2_with fail
          go_quiet (fail)
          go_wp2_with fail
          go_ret
          exact ⟨ret_bool N1.out.symm, j + nq, World.drewN_drewN _ _ _⟩
      · obtain rfl : k = n := by omega
        have Y1 := Lib.hid (YES.out hall)
        clear hall
        go_wp2_with fail
        go_ret
        exact ⟨ret_bool Y1.out.symm, j, rfl⟩
  · have t0 : ((n : Int) != (m : Int)) = true := by simp; omega
    have F : Hid (decide (L = M) = false) := by rw [Hid, decide_eq_false_iff_not]; rintro rfl; omega
    rw [F.out]
    clear hnm hl hm
    go_enter Try.func92, Try.ntmps92
    go_wp2_with fail
    go_ret
    exact ⟨rfl, 0, rfl⟩
set_option maxRecDepth 100000 in
set_option maxHeartbeats 1000000 in
theorem sameS_any (A B : Option Addr) (ca cb n m : Nat) (L M : List Int) (w : World) (hA : Rd w A (ints L)) (hB : Rd w B (ints M)) (hl : L.length = n) (hm : M.length = m) (hn : n ≤ 1000000000) (hn2 : m ≤ 1000000000) :
    Calls Try.prog 61 #[.slice A n ca, .slice B m cb] w fun e w' => e = .returned (.bool (decide (L = M))) ∧ ∃ k, w' = w.drewN k := by
  by_cases hnm : n = m
  · subst hnm
    have t0 : ((n : Int) != (n : Int)) = false := by simp
    have NO := Lib.hid (fun k => @eqL_no L M k)
    have YES := Lib.hid (fun (h : ∀ k, k < n → L.getD k 0 = M.getD k 0) => eqL_yes (L := L) (M := M) (by omega) (by rw [hl]; exact h))
    have CA := Lib.hid (fun k (h : k < n) => ints_cell hA (k := k) (by omega))
    have CB := Lib.hid (fun k (h : k < n) => ints_cell hB (k := k) (by omega))
    clear hA hB hl hm
    generalize decide (L = M) = r at *
    go_enter Try.func61, Try.ntmps61
    go_wp2_with fail
    go_loopw [5] (fun i wr => ∃ k j : Nat, k ≤ n ∧ i = .int .i64 k ∧ wr = w.drewN j ∧ Hid (∀ q, q < k → L.getD q 0 = M.getD q 0)) (fun i _ => n - (intOf i).toNat)
    case atStart => exact ⟨0, 0, Nat.zero_le _, rfl, rfl, fun q h => absurd h (Nat.not_lt_zero _)⟩
    case round =>
      obtain ⟨k, j, hk, rfl, rfl, hall⟩ := hrel
      by_cases hlt : k < n
      · obtain ⟨g, rfl, hg, c1⟩ := CA.out k hlt
        obtain ⟨g', rfl, hg', c2⟩ := CB.out k hlt
        have NK := Lib.hid (NO.out k)
        have SU := Lib.hid (fun (h : L.getD k 0 = M.getD k 0) q (hq : q < k + 1) => (show L.getD q 0 = M.getD q 0 from by
          rcases Nat.lt_succ_iff_lt_or_eq.1 hq with h1 | h1
          · exact hall q h1
          · rw [h1]; exact h))
        clear hall
        generalize L.getD k 0 = x at *
        generalize M.getD k 0 = y at *
        have i0 : (0 : Int) ≤ (k : Int) := by omega
        have i1 : (k : Int) < (n : Int) := by omega
        by_cases he : x = y
        · have S1 := Lib.hid (SU.out he)
          have t1 : (x != y) = false := by simp [he]
          clear he SU NK
          go_wp2_with fail
          go_quiet (fail)
          go_wp2_with fail
          go_roundw
          case rel => exact ⟨k + 1, j + nq, by omega, by go_num, rfl, S1.out⟩
          case measure => simp [intOf]; omega
        · have N1 := Lib.hid (NK.out he)
          have t1 : (x != y) = true := by simpa using he
          clear he SU NK
          go_wp2_with fail
          go_quiet (fail)
          go_wp2_with fail
          go_ret
          exact ⟨ret_bool N1.out.symm, j + nq, World.drewN_drewN _ _ _⟩
      · obtain rfl : k = n := by omega
        have Y1 := Lib.hid (YES.out hall)
        clear hall
        go_wp2_with fail
        go_ret
        exact ⟨ret_bool Y1.out.symm, j, rfl⟩
  · have t0 : ((n : Int) != (m : Int)) = true := by simp; omega
    have F : Hid (decide (L = M) = false) := by rw [Hid, decide_eq_false_iff_not]; rintro rfl; omega
    rw [F.out]
    clear hnm hl hm
    go_enter Try.func61, Try.ntmps61
    go_wp2_with fail
    go_ret
    exact ⟨rfl, 0, rfl⟩
end Go.Proofs.Ytkamkjbllmgifaa
