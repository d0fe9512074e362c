/- The reference's visit of the parts of a picture: its walk. -/
import Derived.Test.YtdhajndmebnknaaGreatTopJ
import Derived.Test.YtdhajndmebnknaaGreatTopW
namespace Go.Proofs.YtdhajndmebnknaaGreat
open Go.RowKit

/-- What a visit of a part answers, in memory. -/
def NdRes (P : Pc) (o : Option Cell) (a : Cell) (s0 : Cell → Bool) (n gs W H : Nat) (w : World) (e : Ending) (w' : World) : Prop :=
  ∃ c d s, e = .returned (.tuple #[.string ⟨List.toArray c⟩, .int .i64 (d : Nat)]) ∧ P.Ta o a s0 n c d s ∧ Blk w' gs 4 (boolC (bTo (sO W s) (W * H))) ∧ Chg (fun b => b = gs ∨ w.heap.size ≤ b) w w'
/-- All neighbours of the first pixels of a part. -/
def Dni (P : Pc) (o : Option Cell) (a : Cell) (SP : List Cell) (i : Nat) (K : List Kid) : Prop := ∀ j (h : j < SP.length), j < i → ∀ q, A4 SP[j] q → Fnd P o a K q
theorem Dni.more {P : Pc} {o : Option Cell} {a : Cell} {SP : List Cell} {i : Nat} {K : List Kid} (h : Dni P o a SP i K) (e : Kid) : Dni P o a SP i (K ++ [e]) := fun j hj hi q hq => (h j hj hi q hq).more e
theorem take_or {SP : List Cell} {s : Cell → Bool} {k : Nat} (hk : k < SP.length) : (fun z => (s z || decide (z ∈ SP.take k)) || decide (z = SP[k])) = fun z => s z || decide (z ∈ SP.take (k + 1)) := by
  funext z
  have e : z ∈ SP.take (k + 1) ↔ z ∈ SP.take k ∨ z = SP[k] := by rw [List.take_succ_eq_append_getElem hk, List.mem_append, List.mem_singleton]
  rw [Bool.eq_iff_iff]
  simp only [Bool.or_eq_true, decide_eq_true_eq, e, or_assoc]
end Go.Proofs.YtdhajndmebnknaaGreat
