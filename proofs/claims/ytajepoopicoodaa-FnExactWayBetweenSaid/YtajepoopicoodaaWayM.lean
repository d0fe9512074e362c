/- The way between two pixels: words of both walks. -/
import Derived.Test.YtajepoopicoodaaWayP
import Derived.Test.YtajepoopicoodaaPbt
import Derived.Test.YtajepoopicoodaaMap
import Derived.Test.YtajepoopicoodaaQue
namespace Go.Proofs.Ytajepoopicoodaa
open Go.RowKit

def letB (k : Nat) : UInt8 := if k = 0 then 100 else if k = 1 then 108 else if k = 2 then 114 else 117
/-- The way that is told. -/
noncomputable def wayV (rows : List (List Int)) (ax ay bx b_y : Int) : ByteArray :=
  if passOk rows ax ay bx b_y then
    (fun f => ByteArray.mk ((dirs f ((f (ax, ay)).getD 0) (ax, ay)).map letB).toArray) (farF (tabW rows) rows.length (gF rows (tabW rows)) (passV rows ax ay bx b_y) (bx, b_y))
  else ByteArray.empty
theorem Chg.grown {w w' : World} {row : Option Nat} (h : w.grownBy w' row) : Chg (fun k => some k = row) w w' := ⟨h.os, h.tape, h.output, h.size, fun j hj hs => h.block j hj hs⟩
theorem Chg.alloc {S : Nat → Prop} {a b : World} (h : Chg S a b) (o : Obj) : Chg S a (b.alloc o) := ⟨h.os, h.tape, h.output, by simp; have := h.size; omega, fun j hj hs => (Below.heap_alloc b o j (Nat.lt_of_lt_of_le hj h.size)).trans (h.block j hj hs)⟩
theorem Chg.below' {S : Nat → Prop} {a b c : World} (h : Chg S a b) (k : Below b.heap.size b c) : Chg S a c := ⟨k.os.trans h.os, k.tape.trans h.tape, k.output.trans h.output, Nat.le_trans h.size k.size, fun j hj hs => (k.block j (Nat.lt_of_lt_of_le hj h.size)).trans (h.block j hj hs)⟩
theorem zeroInt' (w : World) : (zeroValue 3).run Try.prog w = .ok (.int .i64 0) w := by kernel_rfl

/-- What a map of distances holds. -/
def fv (f : Int × Int → Option Nat) : Int × Int → Option Value := fun s => (f s).map fun d => Value.int .i64 (d : Int)
/-- The search's queue and map in memory. -/
structure WyI (w7 : World) (st : BS (Int × Int)) (i g o cap : Nat) (wr : World) : Prop where
  que : Que wr (w7.heap.size + 1) 28 2 g o (st.Q.length - i) cap (spL (st.Q.drop i))
  map : MapF spV spOk wr w7.heap.size (fv st.f)
  ext : Below w7.heap.size w7 wr
theorem WyI.step {w7 : World} {st : BS (Int × Int)} {i g o cap : Nat} {wr w' : World} (h : WyI w7 st i g o cap wr) (hb : Below wr.heap.size wr w') : WyI w7 st i g o cap w' :=
  ⟨h.que.ext hb, h.map.ext hb, Ext.then_ h.ext hb⟩
theorem WyI.start (w7 : World) (x y : Int) {w8 : World} (hm : MapF spV spOk w8 w7.heap.size (putF (fun _ => none) (x, y) (.int .i64 0))) (hz : w8.heap.size = w7.heap.size + 1) (hb : Below w7.heap.size w7 w8) :
    WyI w7 (start1 (x, y)) 0 (w7.heap.size + 1) 0 1 (w8.alloc (.cells #[.int .i64 x, .int .i64 y] 28)) := by
  refine ⟨?_, ?_, hb.alloc hb.size _⟩
  · have := Que.lit w8 (w7.heap.size + 1) 28 2 1 #[.int .i64 x, .int .i64 y] (by omega) (by decide) rfl
    rw [hz] at this
    exact this
  · have e : fv (start1 (x, y)).f = putF (fun _ => none) (x, y) (.int .i64 0) := by
      funext s
      by_cases h : s = (x, y) <;> simp [fv, start1, putF, h]
    rw [e]
    exact hm.ext (Ext.more (Ext.refl _) _)

theorem WyI.head {w7 : World} {st : BS (Int × Int)} {i g o cap : Nat} {wr : World} (I : WyI w7 st i g o cap wr) {x y : Int} {r : List (Int × Int)} (h : st.Q.drop i = (x, y) :: r) :
    wr.cell? ⟨g, o, none⟩ = some (.int .i64 x) ∧ wr.cell? ⟨g, o + 1, none⟩ = some (.int .i64 y) := by
  have q := I.que
  rw [h] at q
  exact ⟨by simpa [spL] using q.cell 0 (by simp [spL]), by simpa [spL] using q.cell 1 (by simp [spL])⟩
theorem fv_put (f : Int × Int → Option Nat) (q : Int × Int) (d : Nat) : fv (fun x => if x = q then some d else f x) = putF (fv f) q (.int .i64 (d : Int)) := by
  funext s
  by_cases h : s = q <;> simp [fv, putF, h]
/-- A place goes into the map, then into the queue. -/
theorem WyI.push {w7 : World} {st : BS (Int × Int)} {i g o cap g' o' cap' d mj : Nat} {u v w' : World} {q : Int × Int} (h : WyI w7 st i g o cap u) (hm : MapF spV spOk v w7.heap.size (putF (fv st.f) q (.int .i64 ((d : Int) + 1)))) (hg : u.grownBy v (some w7.heap.size))
    {ob : Obj} (hi : i ≤ st.Q.length) (hmj : st.Q.length - i = mj) (hq : Que w' (w7.heap.size + 1) 28 2 g' o' (mj + 1) cap' (spL (st.Q.drop i) ++ [.int .i64 q.1, .int .i64 q.2])) (hg2 : (v.alloc ob).grownBy w' (some g)) :
    WyI w7 ⟨st.Q ++ [q], fun x => if x = q then some (d + 1) else st.f x⟩ i g' o' cap' w' := by
  have hB := h.que.2.1
  have hlt := h.map.lt
  have hvz := hg.size
  refine ⟨?_, ?_, ?_⟩
  · have e : (st.Q ++ [q]).length - i = mj + 1 := by simp; omega
    simp only [e]
    rw [List.drop_append_of_le_length hi, spL_append]
    exact hq
  · rw [fv_put]
    have hm2 : MapF spV spOk (v.alloc ob) w7.heap.size (putF (fv st.f) q (.int .i64 ((d : Int) + 1))) := hm.ext (Ext.more (Ext.refl _) _)
    have := hm2.of_block (hg2.block w7.heap.size (by simp; omega) (by simp; omega))
    simpa using this
  · have h1 : Below w7.heap.size w7 v := h.ext.grown hg (by omega) (fun z hz => by cases hz; exact Nat.le_refl _)
    exact (h1.alloc h1.size ob).grown hg2 (by simp; omega) (fun z hz => by cases hz; omega)
theorem dirs_len (f : Int × Int → Option Nat) : ∀ d p, (dirs f d p).length = d := by
  intro d
  induction d with
  | zero => intro p; rfl
  | succ d ih => intro p; rw [dirs, List.length_cons, ih]
end Go.Proofs.Ytajepoopicoodaa
