/- Bytes and texts. -/
import Derived.Test.YtogefmkplkddoaaDoorMem
import Derived.Laws.IdiomStrings
namespace Go.Proofs.YtogefmkplkddoaaDoor
open Go.RowKit

def u8s (l : List UInt8) : List Value := l.map fun b => .int .u8 (b.toNat : Int)
theorem byteT : ElemT 30 5 (.int .u8 0) 1 1 := ⟨Tryd.underlying30, by kernel_rfl, rfl, by decide, by decide⟩
theorem str_of_own {w : World} {base g n cap : Nat} {l : List UInt8} (h : w.ownsRow base 5 1 (.slice (some ⟨g, 0, none⟩) n cap) n (u8s l)) (hn : l.length = n) :
    (convert 30 9 (.slice (some ⟨g, 0, none⟩) n cap)).run Tryd.prog w = .ok (.string ⟨l.toArray⟩) w := by
  subst hn
  refine run_convert_bytes_back w _ _ 5 _ _ l Tryd.underlying30 Tryd.underlying5 Tryd.underlying9 (fun j hj => ?_)
  rw [Addr.add_lit, Nat.zero_add, h.cellAt j (by omega)]
  simp [u8s, hj]
theorem bytes_app (a b : List UInt8) : (ByteArray.mk a.toArray) ++ (ByteArray.mk b.toArray) = ByteArray.mk (a ++ b).toArray := by
  apply ByteArray.ext
  simp
end Go.Proofs.YtogefmkplkddoaaDoor
