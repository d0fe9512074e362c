/- The end of a way: what letters do, and the program's EndOfWay. The end of a way: the reference's. -/
import Derived.Test.YtkamkjbllmgifaaPbt
import Derived.Test.YtkamkjbllmgifaaShelf
import Derived.Lib.Bytealg
import Derived.Deep.CutRange
import Derived.Deep.DeepCutAuto
namespace Go.Proofs.Ytkamkjbllmgifaa
open Go.RowKit

/-- A letter's number; -1 of another byte. -/
def letK (b : UInt8) : Int := Lib.indexByte [100, 108, 114, 117] b
theorem letK_eq (b : UInt8) : letK b = if b = 100 then 0 else if b = 108 then 1 else if b = 114 then 2 else if b = 117 then 3 else -1 := by
  unfold letK
  simp only [Lib.indexByte, beq_iff_eq]
  by_cases h0 : b = 100
  · subst h0; decide
  by_cases h1 : b = 108
  · subst h1; decide
  by_cases h2 : b = 114
  · subst h2; decide
  by_cases h3 : b = 117
  · subst h3; decide
  simp [h0, h1, h2, h3, Ne.symm h0, Ne.symm h1, Ne.symm h2, Ne.symm h3]
theorem letK_bd (b : UInt8) : letK b = -1 ∨ letK b = 0 ∨ letK b = 1 ∨ letK b = 2 ∨ letK b = 3 := by
  rw [letK_eq]; repeat' split
  all_goals simp
/-- The neighbour to which a letter leads. -/
def stepP (p : Int × Int) (k : Int) : Int × Int := if k = 0 then (p.1, p.2 + 1) else if k = 1 then (p.1 - 1, p.2) else if k = 2 then (p.1 + 1, p.2) else (p.1, p.2 - 1)
/-- Behind one more letter: the place and the greatest number on the way; none where the way leads out. -/
def ewS (G : Nat → Int) (W H : Nat) (s : Option ((Int × Int) × Int)) (b : UInt8) : Option ((Int × Int) × Int) :=
  match s with
  | none => none
  | some (p, h) => if letK b < 0 then none else if inG W H (stepP p (letK b)) = true then some (stepP p (letK b), max h (G (plc W (stepP p (letK b))))) else none
def ewTo (G : Nat → Int) (W H : Nat) (bs : List UInt8) (p : Int × Int) (k : Nat) : Option ((Int × Int) × Int) := (bs.take k).foldl (ewS G W H) (some (p, G (plc W p)))
theorem ewTo_succ {G : Nat → Int} {W H : Nat} {bs : List UInt8} {p : Int × Int} {k : Nat} (h : k < bs.length) : ewTo G W H bs p (k + 1) = ewS G W H (ewTo G W H bs p k) bs[k] := by
  rw [ewTo, List.take_succ_eq_append_getElem h, List.foldl_append]; rfl
theorem ewFold_none (G : Nat → Int) (W H : Nat) (bs : List UInt8) : bs.foldl (ewS G W H) none = none := by
  induction bs with
  | nil => rfl
  | cons b bs ih => exact ih
theorem ewTo_none {G : Nat → Int} {W H : Nat} {bs : List UInt8} {p : Int × Int} {k : Nat} (h : ewTo G W H bs p k = none) : ewTo G W H bs p bs.length = none := by
  have e : bs = bs.take k ++ bs.drop k := (List.take_append_drop k bs).symm
  rw [ewTo, List.take_of_length_le (Nat.le_refl _)]
  conv => lhs; rw [e]
  rw [List.foldl_append]
  show (bs.drop k).foldl (ewS G W H) (ewTo G W H bs p k) = none
  rw [h]; exact ewFold_none _ _ _ _
def ewOk (rows : List (List Int)) (x y : Int) (s : ByteArray) : Bool := inR rows x y && decide (s.size ≤ 1000)
/-- Where a way ends, and its greatest number. -/
def ewV (rows : List (List Int)) (x y : Int) (s : ByteArray) : Option ((Int × Int) × Int) := if ewOk rows x y s then ewTo (gF rows (tabW rows)) (tabW rows) rows.length s.data.toList (x, y) s.data.toList.length else none
/-- The call's value. -/
def ewRet : Option ((Int × Int) × Int) → Value
  | none => .tuple #[.agg #[.int .i64 0, .int .i64 0], .int .i64 0, .bool false]
  | some (p, h) => .tuple #[.agg #[.int .i64 p.1, .int .i64 p.2], .int .i64 h, .bool true]
theorem ew_ret {s t : Option ((Int × Int) × Int)} (h : s = t) : Ending.returned (ewRet t) = .returned (ewRet s) := by rw [h]
theorem GreyAt.of {w : World} {p : Nat} {A : Option Addr} {c : Nat} {rows : List (List Int)} (hB : Blk w p 26 #[.slice A rows.length c]) (hm : MatRd w A rows) : GreyAt w p A c rows := by
  have := hB.cell 0
  simp at this
  exact ⟨hB.lt, this, hm⟩
theorem setF_free {w : World} {g : Nat} {t : TypeId} {cs : Array Value} (h : Blk w g t cs) (i : Nat) : w.frozen? ⟨g, i, none⟩ = false := h.free i

/-- What the walk of a way keeps. -/
structure EowI (w : World) (A : Option Addr) (c : Nat) (rows : List (List Int)) (p : Int × Int) (wr : World) : Prop where
  grey : Blk wr w.heap.size 26 #[.slice A rows.length c]
  spot : Blk wr (w.heap.size + 1) 39 #[.int .i64 p.1, .int .i64 p.2]
  res : Blk wr (w.heap.size + 2) 39 #[.int .i64 0, .int .i64 0]
  ext : Below w.heap.size w wr
theorem EowI.step {w : World} {A : Option Addr} {c : Nat} {rows : List (List Int)} {p : Int × Int} {wr w' : World} (h : EowI w A c rows p wr) (hb : Below wr.heap.size wr w') : EowI w A c rows p w' :=
  ⟨h.grey.under hb h.grey.lt, h.spot.under hb h.spot.lt, h.res.under hb h.res.lt, Ext.then_ h.ext hb⟩
theorem EowI.greyAt {w : World} {A : Option Addr} {c : Nat} {rows : List (List Int)} {p : Int × Int} {wr : World} (h : EowI w A c rows p wr) (hm : MatRd w A rows) : GreyAt wr w.heap.size A c rows := GreyAt.of h.grey (hm.ext h.ext)
theorem EowI.turn {w : World} {A : Option Addr} {c : Nat} {rows : List (List Int)} {p : Int × Int} {wr : World} (h : EowI w A c rows p wr) (x y : Int) : EowI w A c rows (x, y) ((wr.setCell ⟨w.heap.size + 1, 0, none⟩ (.int .i64 x)).setCell ⟨w.heap.size + 1, 1, none⟩ (.int .i64 y)) := by
  refine ⟨(h.grey.apart (p := ⟨w.heap.size + 1, 0, none⟩) (by show w.heap.size ≠ w.heap.size + 1; omega) _).apart (p := ⟨w.heap.size + 1, 1, none⟩) (by show w.heap.size ≠ w.heap.size + 1; omega) _, ?_,
    (h.res.apart (p := ⟨w.heap.size + 1, 0, none⟩) (by show w.heap.size + 2 ≠ w.heap.size + 1; omega) _).apart (p := ⟨w.heap.size + 1, 1, none⟩) (by show w.heap.size + 2 ≠ w.heap.size + 1; omega) _,
    (h.ext.setCell (p := ⟨w.heap.size + 1, 0, none⟩) (by show w.heap.size ≤ w.heap.size + 1; omega) _).setCell (p := ⟨w.heap.size + 1, 1, none⟩) (by show w.heap.size ≤ w.heap.size + 1; omega) _⟩
  have := (h.spot.store 0 (.int .i64 x)).store 1 (.int .i64 y)
  simpa using this

end Go.Proofs.Ytkamkjbllmgifaa

namespace Go.Proofs.Ytkamkjbllmgifaa
open Go.RowKit

def stL : List (Int × Int) := [(0, 1), (-1, 0), (1, 0), (0, -1)]
/-- The index of a letter, 4 of another byte. -/
def letN (b : UInt8) : Nat := if b = 100 then 0 else if b = 108 then 1 else if b = 114 then 2 else if b = 117 then 3 else 4
theorem letN_K (b : UInt8) : letK b = if letN b = 4 then -1 else (letN b : Int) := by
  rw [letK_eq, letN]
  split <;> (try rfl)
  split <;> (try rfl)
  split <;> (try rfl)
  split <;> rfl
theorem letN_le (b : UInt8) : letN b ≤ 4 := by unfold letN; repeat' split
                                               all_goals omega
theorem letN_not (b : UInt8) : (0 < letN b → ((100 : Int) == ((b.toNat : Nat) : Int)) = false) ∧ (1 < letN b → ((108 : Int) == ((b.toNat : Nat) : Int)) = false) ∧ (2 < letN b → ((114 : Int) == ((b.toNat : Nat) : Int)) = false) ∧ (3 < letN b → ((117 : Int) == ((b.toNat : Nat) : Int)) = false) := by
  have key : ∀ (c : UInt8), b ≠ c → ((c.toNat : Int) == ((b.toNat : Nat) : Int)) = false := fun c h => by
    simp only [beq_eq_false_iff_ne, ne_eq]
    intro e
    exact h (UInt8.toNat_inj.1 (by omega))
  refine ⟨fun h => key 100 (fun e => by subst e; simp [letN] at h), fun h => key 108 (fun e => by subst e; simp [letN] at h), fun h => key 114 (fun e => by subst e; simp [letN] at h), fun h => key 117 (fun e => by subst e; simp [letN] at h)⟩
theorem letN_is (b : UInt8) : (letN b = 0 → ((b.toNat : Nat) : Int) = 100) ∧ (letN b = 1 → ((b.toNat : Nat) : Int) = 108) ∧ (letN b = 2 → ((b.toNat : Nat) : Int) = 114) ∧ (letN b = 3 → ((b.toNat : Nat) : Int) = 117) := by
  unfold letN
  refine ⟨?_, ?_, ?_, ?_⟩ <;> intro h <;> (repeat' split at h) <;> (try omega) <;> (rename_i e; subst e; rfl)
theorem stL_step (p : Int × Int) (k : Nat) (h : k < 4) : stepP p (k : Int) = (p.1 + (stL[k]'h).1, p.2 + (stL[k]'h).2) ∧ -1 ≤ (stL[k]'h).1 ∧ (stL[k]'h).1 ≤ 1 ∧ -1 ≤ (stL[k]'h).2 ∧ (stL[k]'h).2 ≤ 1 := by
  match k, h with
  | 0, _ => simp [stepP, stL]
  | 1, _ => simp [stepP, stL]; omega
  | 2, _ => simp [stepP, stL]
  | 3, _ => simp [stepP, stL]; omega
theorem EowI.one0 {w : World} {A : Option Addr} {c : Nat} {rows : List (List Int)} {p : Int × Int} {wr : World} (h : EowI w A c rows p wr) (x : Int) : EowI w A c rows (x, p.2) (wr.setCell ⟨w.heap.size + 1, 0, none⟩ (.int .i64 x)) := by
  refine ⟨h.grey.apart (p := ⟨w.heap.size + 1, 0, none⟩) (by show w.heap.size ≠ w.heap.size + 1; omega) _, ?_, h.res.apart (p := ⟨w.heap.size + 1, 0, none⟩) (by show w.heap.size + 2 ≠ w.heap.size + 1; omega) _, h.ext.setCell (p := ⟨w.heap.size + 1, 0, none⟩) (by show w.heap.size ≤ w.heap.size + 1; omega) _⟩
  have := h.spot.store 0 (.int .i64 x)
  simpa using this
theorem EowI.one1 {w : World} {A : Option Addr} {c : Nat} {rows : List (List Int)} {p : Int × Int} {wr : World} (h : EowI w A c rows p wr) (x : Int) : EowI w A c rows (p.1, x) (wr.setCell ⟨w.heap.size + 1, 1, none⟩ (.int .i64 x)) := by
  refine ⟨h.grey.apart (p := ⟨w.heap.size + 1, 1, none⟩) (by show w.heap.size ≠ w.heap.size + 1; omega) _, ?_, h.res.apart (p := ⟨w.heap.size + 1, 1, none⟩) (by show w.heap.size + 2 ≠ w.heap.size + 1; omega) _, h.ext.setCell (p := ⟨w.heap.size + 1, 1, none⟩) (by show w.heap.size ≤ w.heap.size + 1; omega) _⟩
  have := h.spot.store 1 (.int .i64 x)
  simpa using this
end Go.Proofs.Ytkamkjbllmgifaa
