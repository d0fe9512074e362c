/- Regions that draw their order and whose callees make memory: one walk in the order of the text. -/
import Derived.Test.YtajepoopicoodaaQTail
namespace Go.Proofs.Ytajepoopicoodaa
open Go.RowKit

/-- A world that holds S. -/
structure HeldW (S : World → Prop) where
  w : World
  h : S w

section
variable {P : Program}
theorem Ext.aboveHQ {a b c : World} (h : Below a.heap.size a b) (k : Below b.heap.size b c) : Below a.heap.size a c := h.trans (k.mono h.size)
theorem wp_region_held_quiet {id : Nat} {Q : Exit → Act → World → Prop} {a : Act} {w : World} {l : List Oper} (S : World → Prop) (hm : P.follows .mixedOrders = true) (hB : Region.lexB .any l.toArray = true) (hS : S w.drew)
    (h : wpQuiet P l.toArray (fun w' => ∃ i : HeldW S, w' = i.w) (fun a' => ∀ w', (∃ i : HeldW S, w' = i.w) → Q .normal a' w') l a) : (Code.region id l.toArray true).wp P Q a w :=
  wp_region_quiet (C := fun w' => ∃ i : HeldW S, w' = i.w) hm hB ⟨⟨_, hS⟩, rfl⟩ (by simpa using h)
theorem wp_region_held_tail {id : Nat} {Q : Exit → Act → World → Prop} {a : Act} {w : World} {l : List Oper} (n : Nat) (S : World → Prop) (hm : P.follows .mixedOrders = true) (hB : Region.lexTailB .any l.toArray n = true) (hS : S w.drew)
    (h : wpQuiet P l.toArray (fun w' => ∃ i : HeldW S, w' = i.w) (fun a' => ∀ w', (∃ i : HeldW S, w' = i.w) → wpList P l.toArray Q (l.drop n) a' w') (l.take n) a) : (Code.region id l.toArray true).wp P Q a w := by
  simp only [Region.lexTailB, Bool.and_eq_true, decide_eq_true_eq] at hB
  obtain ⟨⟨⟨⟨hsel, hn⟩, hs⟩, hc⟩, hlex⟩ := hB
  have hn' : n < l.length := by simpa using hn
  have htl : (l.take n).length = n := by simp; omega
  have hdl : (l.drop n).length = l.toArray.size - n := by simp
  have inv0 : HeadInv .any l.toArray n (Array.replicate l.toArray.size false) := by
    refine ⟨by simp, fun j oj _ hl => ?_, fun t _ ht => getD_in (by simpa using ht) (getD_replicate_false _ _)⟩
    rw [getD_replicate_false] at hl
    cases hl
  have H := HeadQ.lex (md := .any) (g := l.toArray.size - n) hsel hs hc hn (l.take n) 0 _ a (fun j hj => by
    rw [htl] at hj
    simp [hj]) (by simpa using htl) inv0 (by rw [htl]; exact hlex) h
  refine wp_region_any hm ?_
  have := H.any (Q := Q) (g := l.toArray.size - n) (fun d a' w' hw hL => by
    have := wpAny_of_seq (md := .any) (Q' := Q) (l.drop n) n d a' w' (fun j => by simp [List.getElem?_drop]) (by rw [hdl]; exact hL.1) (hL.2 w' hw)
    rwa [hdl] at this) (l.take n).length _ a _ ⟨⟨_, hS⟩, rfl⟩
  rw [htl, show n + (l.toArray.size - n) = l.toArray.size by omega] at this
  exact this
/-- A callee that makes memory, met in a world above w. -/
theorem Calls.above_of {f : FuncId} {args : Array Value} {w : World} (i : HeldW (fun V => Below w.heap.size w V)) {v : Value}
    (h : Calls P f args i.w fun e w' => e = .returned v ∧ Below i.w.heap.size i.w w') : Calls P f args i.w fun e w'' => e = .returned v ∧ ∃ j : HeldW (fun V => Below w.heap.size w V), w'' = j.w :=
  h.mono fun _ w' ⟨he, hm⟩ => ⟨he, ⟨w', Ext.aboveHQ i.h hm⟩, rfl⟩
end
end Go.Proofs.Ytajepoopicoodaa
