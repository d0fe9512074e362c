/- Pictures in memory: the smallest functions of images. Images: set, blank, each, made. Images: made. -/
import Derived.Test.YtgbciimfpahekaaDoorEq
import Derived.Deep.RegionHeld3
namespace Go.Proofs.YtgbciimfpahekaaDoor
open Go.RowKit

def boolC (L : List Bool) : Array Value := (L.map Value.bool).toArray
theorem boolC_get (L : List Bool) (i : Nat) (h : i < L.length) : (boolC L)[i]? = some (.bool L[i]) := by simp [boolC, h]
theorem boolC_set (L : List Bool) (i : Nat) (b : Bool) : (boolC L).setIfInBounds i (.bool b) = boolC (L.set i b) := by
  apply Array.ext'
  simp [boolC, List.map_set]
theorem boolC_made (n : Nat) : madeCells #[Value.bool false] n = boolC (List.replicate n false) := by
  apply Array.ext'
  simp [toList_madeCells_one, boolC]

/-- Whether a pixel is black. -/
def bit (L : List Bool) (W H : Nat) (x y : Int) : Bool := decide (0 ≤ x) && decide (x < W) && decide (0 ≤ y) && decide (y < H) && L.getD (y * W + x).toNat false
def hasB (W H : Nat) (x y : Int) : Bool := inB x 0 ((W : Int) - 1) && inB y 0 ((H : Int) - 1)
theorem hasB_iff {W H : Nat} {x y : Int} : hasB W H x y = true ↔ (0 ≤ x ∧ x < W) ∧ 0 ≤ y ∧ y < H := by
  simp [hasB, inB]; omega

theorem mul_bd {y W H : Nat} (hy : y < H) (hW : W ≤ 1000) (hH : H ≤ 1000) : y * W ≤ 1000000 ∧ y * W + W ≤ W * H := by
  constructor
  · exact Nat.le_trans (Nat.mul_le_mul (show y ≤ 1000 by omega) hW) (by decide)
  · have : (y + 1) * W ≤ H * W := Nat.mul_le_mul_right _ (by omega)
    rw [Nat.mul_comm W H]
    rw [Nat.add_mul, Nat.one_mul] at this
    exact this

end Go.Proofs.YtgbciimfpahekaaDoor

namespace Go.Proofs.YtgbciimfpahekaaDoor
open Go.RowKit

theorem boolInfo : (Tryd.prog.info? 4).map (fun i => (i.zero, i.size, i.bytes)) = some (some (.bool false), 1, 1) := by kernel_rfl

set_option maxHeartbeats 1000000 in
/-- Function K has a body: a call enters it. -/
def Enters (K : FuncId) : Prop := ∀ (args : Array Value) (w : World), (callFunc K args).run Tryd.prog w = .ok (.enter K args) w
theorem enters_of {K : FuncId} {fn : Func} (h : Tryd.prog.funcs[K]? = some fn) (h1 : (fn.name == "runtime.NumGoroutine") = false) (h2 : fn.body.isNone = false) : Enters K := by
  intro args w
  have h1' : ¬ fn.name = "runtime.NumGoroutine" := by simpa using h1
  have h2' : ¬ fn.body = none := fun e => by rw [e] at h2; cases h2
  simp [callFunc, h, h1', h2']

/-- The first k of n bits by a function, the rest white. -/
def bitsTo (b : Nat → Bool) (k n : Nat) : List Bool := (List.range n).map fun i => if i < k then b i else false
theorem bitsTo_zero (b : Nat → Bool) (n : Nat) : bitsTo b 0 n = List.replicate n false := by
  apply List.ext_getElem <;> simp [bitsTo]
theorem bitsTo_succ (b : Nat → Bool) (k n : Nat) : (bitsTo b k n).set k (b k) = bitsTo b (k + 1) n := by
  apply List.ext_getElem
  · simp [bitsTo]
  · intro i h1 h2
    simp only [List.getElem_set, bitsTo, List.getElem_map, List.getElem_range]
    by_cases e : k = i
    · subst e; simp
    · by_cases h3 : i < k
      · rw [if_neg e, if_pos h3, if_pos (by omega)]
      · rw [if_neg e, if_neg h3, if_neg (by omega)]
theorem bitsTo_all (b : Nat → Bool) (n : Nat) : bitsTo b n n = (List.range n).map b := by
  apply List.map_congr_left
  intro i hi
  rw [List.mem_range] at hi
  simp [hi]

end Go.Proofs.YtgbciimfpahekaaDoor

namespace Go.Proofs.YtgbciimfpahekaaDoor
open Go.RowKit

end Go.Proofs.YtgbciimfpahekaaDoor
