/- Desks: names, pictures in a list, the two tests of a desk. -/
import Derived.Test.YtgbciimfpahekaaDoorSIs
import Derived.Test.YtgbciimfpahekaaDoorPicL
namespace Go.Proofs.YtgbciimfpahekaaDoor
open Go.RowKit

/-- A picture at a place of a block. -/
structure PicAtO (w : World) (p o : Nat) (A : Option Addr) (c : Nat) (rows : List ByteArray) : Prop where
  lt : p < w.heap.size
  cell : w.cell? ⟨p, o, none⟩ = some (.slice A rows.length c)
  rd : Rd w A (strs rows)
theorem PicAtO.row {w : World} {p o : Nat} {A : Option Addr} {c : Nat} {rows : List ByteArray} (h : PicAtO w p o A c rows) (hn : 0 < rows.length) :
    ∃ g, A = some ⟨g, 0, none⟩ ∧ g < w.heap.size ∧ ∀ y (hy : y < rows.length), w.cell? ⟨g, y, none⟩ = some (.string rows[y]) := by
  obtain ⟨g, e, hg, hc⟩ := h.rd (by simpa [strs] using hn)
  exact ⟨g, e, hg, fun y hy => by rw [hc y (by simpa [strs] using hy)]; simp [strs]⟩
def azB (c : UInt8) : Bool := decide (97 ≤ c.toNat) && decide (c.toNat ≤ 122)
def nameOk (s : ByteArray) : Bool := s.data.toList.all azB && decide (1 ≤ s.size) && decide (s.size ≤ 8)
theorem name_bad {s : ByteArray} (i : Nat) (h : i < s.size) (hb : azB s[i] = false) : nameOk s = false := by
  rw [nameOk, show s.data.toList.all azB = false from by
    rw [List.all_eq_false]
    exact ⟨s[i], List.mem_of_getElem (i := i) (h := h) rfl, by simp [hb]⟩]
  rfl
theorem name_all {s : ByteArray} (h : ∀ i (h : i < s.size), azB s[i] = true) : nameOk s = (decide (1 ≤ s.size) && decide (s.size ≤ 8)) := by
  rw [nameOk, show s.data.toList.all azB = true from by
    rw [List.all_eq_true]
    intro x hx
    obtain ⟨i, hi, rfl⟩ := List.getElem_of_mem hx
    exact h i hi]
  rfl
set_option maxHeartbeats 1000000 in
theorem isNameS_any (s : ByteArray) (w : World) (hs : s.size ≤ 1000000000) : Calls Tryd.prog 62 #[.string s] w fun e w' => e = .returned (.bool (nameOk s)) ∧ w = w' := by
  have NB := Lib.hid (fun i h hb => @name_bad s i h hb)
  have NA := Lib.hid (fun h => @name_all s h)
  go_enter Tryd.func62, Tryd.ntmps62
  go_wp2_with fail
  go_loopw [3] (fun iv wr => ∃ k : Nat, k ≤ s.size ∧ iv = .int .i64 k ∧ Hid (∀ i (h : i < s.size), i < k → azB s[i] = true) ∧ wr = w) (fun iv _ => s.size - (intOf iv).toNat)
  case atStart => exact ⟨0, Nat.zero_le _, rfl, fun _ _ h => absurd h (Nat.not_lt_zero _), rfl⟩
  case round =>
    obtain ⟨k, hk, rfl, hA, rfl⟩ := hrel
    by_cases hlt : k < s.size
    · have i0 : (0 : Int) ≤ (k : Int) := by omega
      have i1 : (k : Int) < (s.size : Int) := by omega
      by_cases hlo : s[k].toNat < 97
      · have F : Hid (nameOk s = false) := NB.out k hlt (by simp [azB]; omega)
        have q0 : ((s[k].toNat : Nat) : Int) < 97 := by omega
        clear hA hlo
        go_wp2_with fail
        go_ret
        exact ⟨by rw [F.out]; rfl, rfl⟩
      by_cases hhi : 122 < s[k].toNat
      · have F : Hid (nameOk s = false) := NB.out k hlt (by simp [azB]; omega)
        have q0 : ¬ ((s[k].toNat : Nat) : Int) < 97 := by omega
        have q1 : (122 : Int) < ((s[k].toNat : Nat) : Int) := by omega
        clear hA hlo hhi
        go_wp2_with fail
        go_ret
        exact ⟨by rw [F.out]; rfl, rfl⟩
      have q0 : ¬ ((s[k].toNat : Nat) : Int) < 97 := by omega
      have q1 : ¬ (122 : Int) < ((s[k].toNat : Nat) : Int) := by omega
      have HA : Hid (∀ i (h : i < s.size), i < k + 1 → azB s[i] = true) := fun i h h2 => by
        rcases Nat.lt_succ_iff_lt_or_eq.1 h2 with h3 | rfl
        · exact hA.out i h h3
        · simp [azB]; omega
      clear hA hlo hhi
      go_wp2_with fail
      go_roundw
      case rel => exact ⟨k + 1, by omega, by go_num, HA, by first | rfl | trivial⟩
      case measure => simp [intOf]; omega
    · obtain rfl : k = s.size := by omega
      have F := Lib.hid (NA.out (fun i h => hA.out i h h))
      clear hA
      by_cases h1 : 1 ≤ s.size
      · have q1 : (1 : Int) ≤ (s.size : Int) := by omega
        by_cases h8 : s.size ≤ 8
        · have q8 : (s.size : Int) ≤ 8 := by omega
          have G : Hid (nameOk s = true) := by rw [Hid, F.out]; simp [h1, h8]
          clear h1 h8
          go_wp2_with fail
          go_ret
          exact ⟨by rw [G.out]; first | rfl | simp [q8] | simp [q1, q8], rfl⟩
        · have q8 : ¬ (s.size : Int) ≤ 8 := by omega
          have G : Hid (nameOk s = false) := by rw [Hid, F.out]; simp [h8]
          clear h1 h8
          go_wp2_with fail
          go_ret
          exact ⟨by rw [G.out]; first | rfl | simp [q8] | simp [q1, q8], rfl⟩
      · have q1 : ¬ (1 : Int) ≤ (s.size : Int) := by omega
        have G : Hid (nameOk s = false) := by rw [Hid, F.out]; simp [h1]
        clear h1
        go_wp2_with fail
        go_ret
        exact ⟨by rw [G.out]; first | rfl | simp [q1], rfl⟩
end Go.Proofs.YtgbciimfpahekaaDoor
