/- The library's sort and search at numbers of a call's own. -/
import Derived.Test.YtdhajndmebnknaaMem
import Derived.Test.YtdhajndmebnknaaShelf
import Derived.Sort.Grow
namespace Go.Proofs.Ytdhajndmebnknaa
open Go.RowKit
open Go.Sort

section
variable {α : Type} [Inhabited α] {enc : α → Value}
theorem heap_put {w : World} {g n : Nat} {os : Array Obj} {cur : Array Value} {e : TypeId} {fr : Nat × Nat} (d : Array α) (hb : w.heap[g]? = some (.cells cur e fr)) :
    (grow (putRow enc (Sort.ahead w n) g 0 d) os).heap[g]? = some (.cells (putCells enc 0 d cur) e fr) := by
  have hg : g < w.heap.size := (Array.getElem?_eq_some_iff.1 hb).1
  rw [heap_grow_old _ _ (by simpa using hg)]
  simp [putRow, mapBlock, Sort.ahead, Array.getElem?_modify, hb, onCells]
theorem grown_put {w : World} {g n : Nat} {os : Array Obj} (d : Array α) : w.grownBy (grow (putRow enc (Sort.ahead w n) g 0 d) os) (some g) := by
  refine ⟨rfl, rfl, rfl, by simp, fun k hk hne => ?_⟩
  rw [heap_grow_old _ _ (by simpa using hk)]
  have : g ≠ k := fun e => hne (by rw [e])
  simp [putRow, mapBlock, Sort.ahead, Array.getElem?_modify, this]
theorem take_put (cur : Array Value) (ts : List α) (h : ts.length ≤ cur.size) : (putCells enc 0 ts.toArray cur).toList.take ts.length = ts.map enc := by
  apply List.ext_getElem?
  intro j
  by_cases hj : j < ts.length
  · rw [List.getElem?_take_of_lt hj, Array.getElem?_toList]
    simp [putCells, hj, show j < cur.size by omega]
  · rw [List.getElem?_take_eq_none (by omega), List.getElem?_eq_none (by simp; omega)]
/-- What an own slice of one-cell elements holds, in the sort's words. -/
theorem own_holds {w : World} {base g cap n : Nat} {e : TypeId} {L : List α} (h : w.ownsRow base e 1 (.slice (some ⟨g, 0, none⟩) n cap) n (L.map enc)) (hn : L.length = n) : Holds enc w g 0 L.toArray ∧ g < w.heap.size := by
  refine ⟨fun j hj => ?_, (h.lt g rfl).2⟩
  have hj' : j < L.length := by simpa using hj
  refine ⟨?_, ?_⟩
  · rw [Nat.zero_add, h.cellAt j (by omega)]
    simp [hj']
  · rw [Nat.zero_add]; exact h.frozenAt j
/-- Behind a call that lays a list of that length, the slice owns it. -/
theorem own_put {w : World} {base g cap n m : Nat} {e : TypeId} {os : Array Obj} {L M : List α} (h : w.ownsRow base e 1 (.slice (some ⟨g, 0, none⟩) n cap) n (L.map enc)) (hm : M.length = n) :
    (grow (putRow enc (Sort.ahead w m) g 0 M.toArray) os).ownsRow base e 1 (.slice (some ⟨g, 0, none⟩) n cap) n (M.map enc) := by
  rcases h.2 with ⟨hv, _⟩ | ⟨g', cap', cur, hv, hbase, hb, h1, h2, h3, h4⟩
  · cases hv
  · simp only [Value.slice.injEq, Option.some.injEq, Addr.mk.injEq] at hv
    obtain ⟨⟨rfl, _⟩, _, rfl⟩ := hv
    refine ⟨by simp [hm], .inr ⟨g, cap, _, rfl, hbase, heap_put _ hb, h1, h2, by simp [putCells, h3], ?_⟩⟩
    rw [Nat.mul_one, ← hm]
    exact take_put cur M (by omega)
end

end Go.Proofs.Ytdhajndmebnknaa
