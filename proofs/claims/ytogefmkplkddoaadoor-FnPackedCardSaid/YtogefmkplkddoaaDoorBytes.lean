/- Bytes that came in. -/
import Derived.Test.YtogefmkplkddoaaDoorMem
namespace Go.Proofs.YtogefmkplkddoaaDoor
open Go.RowKit

def BytesAt (w : World) (A : Option Addr) (n : Nat) (l : List Int) : Prop :=
  l.length = n ∧ (∀ x ∈ l, 0 ≤ x ∧ x ≤ 255) ∧ (0 < n → ∃ a, A = some a ∧ a.block < w.heap.size ∧ ∀ i (h : i < l.length), w.cell? (a.add i) = some (.int .u8 l[i]))
theorem Addr.add_block (a : Addr) (i : Nat) : (a.add i).block = a.block := by
  unfold Addr.add; split <;> rfl
theorem BytesAt.ext {w w' : World} {A : Option Addr} {n : Nat} {l : List Int} (h : BytesAt w A n l) (hb : Below w.heap.size w w') : BytesAt w' A n l := by
  refine ⟨h.1, h.2.1, fun hn => ?_⟩
  obtain ⟨a, e, hlt, hc⟩ := h.2.2 hn
  exact ⟨a, e, Nat.lt_of_lt_of_le hlt hb.size, fun i hi => (hb.cell (by rw [Addr.add_block]; exact hlt)).trans (hc i hi)⟩

/-- What r8At answers. -/
def atI (l : List Int) (i : Nat) (n : Int) : Int := if n ≤ 1 then 0 else if i < l.length then l.getD i 0 % n else 0
theorem atI_bd {l : List Int} (i : Nat) {n : Int} (h : 1 ≤ n) : 0 ≤ atI l i n ∧ atI l i n < n := by
  unfold atI
  split
  · omega
  · split
    · exact ⟨Int.emod_nonneg _ (by omega), Int.emod_lt_of_pos _ (by omega)⟩
    · omega

set_option maxHeartbeats 400000 in
theorem long_any (A B : Option Addr) (n c m d : Nat) (hn : n ≤ maxLen) (hm : m ≤ maxLen) (w : World) :
    Calls Tryd.prog 18 #[.slice A n c, .slice B m d] w fun e w' => e = .returned (.bool (decide (48 < n) || decide (48 < m))) ∧ w = w' := by
  unfold maxLen at hn hm
  by_cases h1 : 48 < n
  · have t1 : (48 : Int) < (n : Int) := by omega
    go_enter Tryd.func18, Tryd.ntmps18
    go_wp2_with fail
    go_ret
    exact ⟨ret_bool (by simp [h1]), rfl⟩
  · have t1 : ¬ (48 : Int) < (n : Int) := by omega
    have F : Hid ((decide (48 < n) || decide (48 < m)) = decide ((48 : Int) < (m : Int))) := by
      simp [Hid, h1]; omega
    clear h1
    go_enter Tryd.func18, Tryd.ntmps18
    go_wp2_with fail
    go_ret
    exact ⟨ret_bool F.out.symm, rfl⟩

set_option maxHeartbeats 400000 in
theorem bAt_any (A : Option Addr) (l : List Int) (len c : Nat) (i : Nat) (n : Int) (w : World) (hl : BytesAt w A len l) (hlen : len ≤ maxLen) (hi : i ≤ 1000) (hn : 1 ≤ n) (hn2 : n ≤ 100000) :
    Calls Tryd.prog 29 #[.slice A len c, .int .i64 i, .int .i64 n] w fun e w' => e = .returned (.int .i64 (atI l i n)) ∧ w = w' := by
  unfold maxLen at hlen
  obtain ⟨h1, h2, h3⟩ := hl
  by_cases hn1 : n ≤ 1
  · have F : Hid (atI l i n = 0) := by simp [Hid, atI, hn1]
    go_enter Tryd.func29, Tryd.ntmps29
    go_wp2_with fail
    go_ret
    exact ⟨ret_int F.out.symm, rfl⟩
  · by_cases hil : i < len
    · obtain ⟨a, rfl, hlt, hc⟩ := h3 (by omega)
      have c1 := hc i (by omega)
      have b1 := h2 l[i] (List.getElem_mem _)
      have F : Hid (atI l i n = l[i] % n) := by simp [Hid, atI, hn1, h1, hil]
      generalize l[i] = x at *
      obtain ⟨b0, b1⟩ := b1
      have i0 : (0 : Int) ≤ (i : Int) := by omega
      have i1 : (i : Int) < (len : Int) := by omega
      clear h1 h2 h3 hc
      go_enter Tryd.func29, Tryd.ntmps29
      go_wp2_with fail
      go_ret
      exact ⟨ret_int F.out.symm, rfl⟩
    · have F : Hid (atI l i n = 0) := by simp [Hid, atI, h1, hil]
      have i1 : ¬ (i : Int) < (len : Int) := by omega
      clear h1 h2 h3
      go_enter Tryd.func29, Tryd.ntmps29
      go_wp2_with fail
      go_ret
      exact ⟨ret_int F.out.symm, rfl⟩
end Go.Proofs.YtogefmkplkddoaaDoor
