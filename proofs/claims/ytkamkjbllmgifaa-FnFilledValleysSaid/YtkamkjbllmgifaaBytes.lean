/- Bytes that came in. -/
import Derived.Test.YtkamkjbllmgifaaEq
namespace Go.Proofs.Ytkamkjbllmgifaa
open Go.RowKit

def BytesAt (w : World) (A : Option Addr) (n : Nat) (l : List Int) : Prop :=
  l.length = n ∧ (∀ x ∈ l, 0 ≤ x ∧ x ≤ 255) ∧ (0 < n → ∃ a, A = some a ∧ a.block < w.heap.size ∧ ∀ i (h : i < l.length), w.cell? (a.add i) = some (.int .u8 l[i]))
theorem Addr.add_block (a : Addr) (i : Nat) : (a.add i).block = a.block := by
  unfold Addr.add; split <;> rfl
theorem BytesAt.ext {w w' : World} {A : Option Addr} {n : Nat} {l : List Int} (h : BytesAt w A n l) (hb : Below w.heap.size w w') : BytesAt w' A n l := by
  refine ⟨h.1, h.2.1, fun hn => ?_⟩
  obtain ⟨a, e, hlt, hc⟩ := h.2.2 hn
  exact ⟨a, e, Nat.lt_of_lt_of_le hlt hb.size, fun i hi => (hb.cell (by rw [Addr.add_block]; exact hlt)).trans (hc i hi)⟩

/-- What r8At answers. -/
def atI (l : List Int) (i : Nat) (n : Int) : Int := if n ≤ 1 then 0 else if i < l.length then l.getD i 0 % n else 0
theorem atI_bd {l : List Int} (i : Nat) {n : Int} (h : 1 ≤ n) : 0 ≤ atI l i n ∧ atI l i n < n := by
  unfold atI
  split
  · omega
  · split
    · exact ⟨Int.emod_nonneg _ (by omega), Int.emod_lt_of_pos _ (by omega)⟩
    · omega

end Go.Proofs.Ytkamkjbllmgifaa
