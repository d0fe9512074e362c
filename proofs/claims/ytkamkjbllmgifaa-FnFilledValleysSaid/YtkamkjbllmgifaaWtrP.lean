/- The end of a way: what letters do, and the program's EndOfWay. The end of a way: the reference's. Grey pictures: sums, on both sides. How much water a grey picture holds: on both sides. Water: the plain part of its law. -/
import Derived.Test.YtkamkjbllmgifaaLevB
import Derived.Test.YtkamkjbllmgifaaShelf
import Derived.Lib.Bytealg
import Derived.Deep.CutRange
import Derived.Deep.DeepCutAuto
import Derived.Test.YtkamkjbllmgifaaGIm
import Derived.Test.YtkamkjbllmgifaaB10G
namespace Go.Proofs.Ytkamkjbllmgifaa
open Go.RowKit

/-- A letter's number; -1 of another byte. -/
def letK (b : UInt8) : Int := Lib.indexByte [100, 108, 114, 117] b
theorem letK_eq (b : UInt8) : letK b = if b = 100 then 0 else if b = 108 then 1 else if b = 114 then 2 else if b = 117 then 3 else -1 := by
  unfold letK
  simp only [Lib.indexByte, beq_iff_eq]
  by_cases h0 : b = 100
  · subst h0; decide
  by_cases h1 : b = 108
  · subst h1; decide
  by_cases h2 : b = 114
  · subst h2; decide
  by_cases h3 : b = 117
  · subst h3; decide
  simp [h0, h1, h2, h3, Ne.symm h0, Ne.symm h1, Ne.symm h2, Ne.symm h3]
theorem letK_bd (b : UInt8) : letK b = -1 ∨ letK b = 0 ∨ letK b = 1 ∨ letK b = 2 ∨ letK b = 3 := by
  rw [letK_eq]; repeat' split
  all_goals simp
/-- The neighbour to which a letter leads. -/
def stepP (p : Int × Int) (k : Int) : Int × Int := if k = 0 then (p.1, p.2 + 1) else if k = 1 then (p.1 - 1, p.2) else if k = 2 then (p.1 + 1, p.2) else (p.1, p.2 - 1)
/-- Behind one more letter: the place and the greatest number on the way; none where the way leads out. -/
def ewS (G : Nat → Int) (W H : Nat) (s : Option ((Int × Int) × Int)) (b : UInt8) : Option ((Int × Int) × Int) :=
  match s with
  | none => none
  | some (p, h) => if letK b < 0 then none else if inG W H (stepP p (letK b)) = true then some (stepP p (letK b), max h (G (plc W (stepP p (letK b))))) else none
def ewTo (G : Nat → Int) (W H : Nat) (bs : List UInt8) (p : Int × Int) (k : Nat) : Option ((Int × Int) × Int) := (bs.take k).foldl (ewS G W H) (some (p, G (plc W p)))
theorem ewTo_succ {G : Nat → Int} {W H : Nat} {bs : List UInt8} {p : Int × Int} {k : Nat} (h : k < bs.length) : ewTo G W H bs p (k + 1) = ewS G W H (ewTo G W H bs p k) bs[k] := by
  rw [ewTo, List.take_succ_eq_append_getElem h, List.foldl_append]; rfl
theorem ewFold_none (G : Nat → Int) (W H : Nat) (bs : List UInt8) : bs.foldl (ewS G W H) none = none := by
  induction bs with
  | nil => rfl
  | cons b bs ih => exact ih
theorem ewTo_none {G : Nat → Int} {W H : Nat} {bs : List UInt8} {p : Int × Int} {k : Nat} (h : ewTo G W H bs p k = none) : ewTo G W H bs p bs.length = none := by
  have e : bs = bs.take k ++ bs.drop k := (List.take_append_drop k bs).symm
  rw [ewTo, List.take_of_length_le (Nat.le_refl _)]
  conv => lhs; rw [e]
  rw [List.foldl_append]
  show (bs.drop k).foldl (ewS G W H) (ewTo G W H bs p k) = none
  rw [h]; exact ewFold_none _ _ _ _
def ewOk (rows : List (List Int)) (x y : Int) (s : ByteArray) : Bool := inR rows x y && decide (s.size ≤ 1000)
/-- Where a way ends, and its greatest number. -/
def ewV (rows : List (List Int)) (x y : Int) (s : ByteArray) : Option ((Int × Int) × Int) := if ewOk rows x y s then ewTo (gF rows (tabW rows)) (tabW rows) rows.length s.data.toList (x, y) s.data.toList.length else none
/-- The call's value. -/
def ewRet : Option ((Int × Int) × Int) → Value
  | none => .tuple #[.agg #[.int .i64 0, .int .i64 0], .int .i64 0, .bool false]
  | some (p, h) => .tuple #[.agg #[.int .i64 p.1, .int .i64 p.2], .int .i64 h, .bool true]
theorem ew_ret {s t : Option ((Int × Int) × Int)} (h : s = t) : Ending.returned (ewRet t) = .returned (ewRet s) := by rw [h]
theorem GreyAt.of {w : World} {p : Nat} {A : Option Addr} {c : Nat} {rows : List (List Int)} (hB : Blk w p 26 #[.slice A rows.length c]) (hm : MatRd w A rows) : GreyAt w p A c rows := by
  have := hB.cell 0
  simp at this
  exact ⟨hB.lt, this, hm⟩
theorem setF_free {w : World} {g : Nat} {t : TypeId} {cs : Array Value} (h : Blk w g t cs) (i : Nat) : w.frozen? ⟨g, i, none⟩ = false := h.free i

/-- What the walk of a way keeps. -/
structure EowI (w : World) (A : Option Addr) (c : Nat) (rows : List (List Int)) (p : Int × Int) (wr : World) : Prop where
  grey : Blk wr w.heap.size 26 #[.slice A rows.length c]
  spot : Blk wr (w.heap.size + 1) 39 #[.int .i64 p.1, .int .i64 p.2]
  res : Blk wr (w.heap.size + 2) 39 #[.int .i64 0, .int .i64 0]
  ext : Below w.heap.size w wr
theorem EowI.step {w : World} {A : Option Addr} {c : Nat} {rows : List (List Int)} {p : Int × Int} {wr w' : World} (h : EowI w A c rows p wr) (hb : Below wr.heap.size wr w') : EowI w A c rows p w' :=
  ⟨h.grey.under hb h.grey.lt, h.spot.under hb h.spot.lt, h.res.under hb h.res.lt, Ext.then_ h.ext hb⟩
theorem EowI.greyAt {w : World} {A : Option Addr} {c : Nat} {rows : List (List Int)} {p : Int × Int} {wr : World} (h : EowI w A c rows p wr) (hm : MatRd w A rows) : GreyAt wr w.heap.size A c rows := GreyAt.of h.grey (hm.ext h.ext)
theorem EowI.turn {w : World} {A : Option Addr} {c : Nat} {rows : List (List Int)} {p : Int × Int} {wr : World} (h : EowI w A c rows p wr) (x y : Int) : EowI w A c rows (x, y) ((wr.setCell ⟨w.heap.size + 1, 0, none⟩ (.int .i64 x)).setCell ⟨w.heap.size + 1, 1, none⟩ (.int .i64 y)) := by
  refine ⟨(h.grey.apart (p := ⟨w.heap.size + 1, 0, none⟩) (by show w.heap.size ≠ w.heap.size + 1; omega) _).apart (p := ⟨w.heap.size + 1, 1, none⟩) (by show w.heap.size ≠ w.heap.size + 1; omega) _, ?_,
    (h.res.apart (p := ⟨w.heap.size + 1, 0, none⟩) (by show w.heap.size + 2 ≠ w.heap.size + 1; omega) _).apart (p := ⟨w.heap.size + 1, 1, none⟩) (by show w.heap.size + 2 ≠ w.heap.size + 1; omega) _,
    (h.ext.setCell (p := ⟨w.heap.size + 1, 0, none⟩) (by show w.heap.size ≤ w.heap.size + 1; omega) _).setCell (p := ⟨w.heap.size + 1, 1, none⟩) (by show w.heap.size ≤ w.heap.size + 1; omega) _⟩
  have := (h.spot.store 0 (.int .i64 x)).store 1 (.int .i64 y)
  simpa using this

end Go.Proofs.Ytkamkjbllmgifaa

namespace Go.Proofs.Ytkamkjbllmgifaa
open Go.RowKit

def stL : List (Int × Int) := [(0, 1), (-1, 0), (1, 0), (0, -1)]
/-- The index of a letter, 4 of another byte. -/
def letN (b : UInt8) : Nat := if b = 100 then 0 else if b = 108 then 1 else if b = 114 then 2 else if b = 117 then 3 else 4
theorem letN_K (b : UInt8) : letK b = if letN b = 4 then -1 else (letN b : Int) := by
  rw [letK_eq, letN]
  split <;> (try rfl)
  split <;> (try rfl)
  split <;> (try rfl)
  split <;> rfl
theorem letN_le (b : UInt8) : letN b ≤ 4 := by unfold letN; repeat' split
                                               all_goals omega
theorem letN_not (b : UInt8) : (0 < letN b → ((100 : Int) == ((b.toNat : Nat) : Int)) = false) ∧ (1 < letN b → ((108 : Int) == ((b.toNat : Nat) : Int)) = false) ∧ (2 < letN b → ((114 : Int) == ((b.toNat : Nat) : Int)) = false) ∧ (3 < letN b → ((117 : Int) == ((b.toNat : Nat) : Int)) = false) := by
  have key : ∀ (c : UInt8), b ≠ c → ((c.toNat : Int) == ((b.toNat : Nat) : Int)) = false := fun c h => by
    simp only [beq_eq_false_iff_ne, ne_eq]
    intro e
    exact h (UInt8.toNat_inj.1 (by omega))
  refine ⟨fun h => key 100 (fun e => by subst e; simp [letN] at h), fun h => key 108 (fun e => by subst e; simp [letN] at h), fun h => key 114 (fun e => by subst e; simp [letN] at h), fun h => key 117 (fun e => by subst e; simp [letN] at h)⟩
theorem letN_is (b : UInt8) : (letN b = 0 → ((b.toNat : Nat) : Int) = 100) ∧ (letN b = 1 → ((b.toNat : Nat) : Int) = 108) ∧ (letN b = 2 → ((b.toNat : Nat) : Int) = 114) ∧ (letN b = 3 → ((b.toNat : Nat) : Int) = 117) := by
  unfold letN
  refine ⟨?_, ?_, ?_, ?_⟩ <;> intro h <;> (repeat' split at h) <;> (try omega) <;> (rename_i e; subst e; rfl)
theorem stL_step (p : Int × Int) (k : Nat) (h : k < 4) : stepP p (k : Int) = (p.1 + (stL[k]'h).1, p.2 + (stL[k]'h).2) ∧ -1 ≤ (stL[k]'h).1 ∧ (stL[k]'h).1 ≤ 1 ∧ -1 ≤ (stL[k]'h).2 ∧ (stL[k]'h).2 ≤ 1 := by
  match k, h with
  | 0, _ => simp [stepP, stL]
  | 1, _ => simp [stepP, stL]; omega
  | 2, _ => simp [stepP, stL]
  | 3, _ => simp [stepP, stL]; omega
theorem EowI.one0 {w : World} {A : Option Addr} {c : Nat} {rows : List (List Int)} {p : Int × Int} {wr : World} (h : EowI w A c rows p wr) (x : Int) : EowI w A c rows (x, p.2) (wr.setCell ⟨w.heap.size + 1, 0, none⟩ (.int .i64 x)) := by
  refine ⟨h.grey.apart (p := ⟨w.heap.size + 1, 0, none⟩) (by show w.heap.size ≠ w.heap.size + 1; omega) _, ?_, h.res.apart (p := ⟨w.heap.size + 1, 0, none⟩) (by show w.heap.size + 2 ≠ w.heap.size + 1; omega) _, h.ext.setCell (p := ⟨w.heap.size + 1, 0, none⟩) (by show w.heap.size ≤ w.heap.size + 1; omega) _⟩
  have := h.spot.store 0 (.int .i64 x)
  simpa using this
theorem EowI.one1 {w : World} {A : Option Addr} {c : Nat} {rows : List (List Int)} {p : Int × Int} {wr : World} (h : EowI w A c rows p wr) (x : Int) : EowI w A c rows (p.1, x) (wr.setCell ⟨w.heap.size + 1, 1, none⟩ (.int .i64 x)) := by
  refine ⟨h.grey.apart (p := ⟨w.heap.size + 1, 1, none⟩) (by show w.heap.size ≠ w.heap.size + 1; omega) _, ?_, h.res.apart (p := ⟨w.heap.size + 1, 1, none⟩) (by show w.heap.size + 2 ≠ w.heap.size + 1; omega) _, h.ext.setCell (p := ⟨w.heap.size + 1, 1, none⟩) (by show w.heap.size ≤ w.heap.size + 1; omega) _⟩
  have := h.spot.store 1 (.int .i64 x)
  simpa using this
end Go.Proofs.Ytkamkjbllmgifaa

namespace Go.Proofs.Ytkamkjbllmgifaa
open Go.RowKit

def rsum (r : List Int) (k : Nat) : Int := (r.take k).sum
def gsum (rows : List (List Int)) (k : Nat) : Int := ((rows.take k).map List.sum).sum
theorem rsum_succ {r : List Int} {k : Nat} (h : k < r.length) : rsum r (k + 1) = rsum r k + r[k] := by
  unfold rsum
  rw [List.take_add_one, List.getElem?_eq_getElem h, List.sum_append]
  simp
theorem rsum_all (r : List Int) : rsum r r.length = r.sum := by simp [rsum]
theorem gsum_succ {rows : List (List Int)} {k : Nat} (h : k < rows.length) : gsum rows (k + 1) = gsum rows k + rows[k].sum := by
  unfold gsum
  rw [List.take_add_one, List.getElem?_eq_getElem h, List.map_append, List.sum_append]
  simp
theorem rsum_bd {r : List Int} (hv : ∀ x (h : x < r.length), 0 ≤ r[x] ∧ r[x] ≤ 1000) : ∀ k, k ≤ r.length → 0 ≤ rsum r k ∧ rsum r k ≤ 1000 * k := by
  intro k
  induction k with
  | zero => intro _; simp [rsum]
  | succ k ih =>
    intro h
    have := ih (by omega)
    have := hv k (by omega)
    rw [rsum_succ (by omega)]
    omega
theorem gsum_bd {rows : List (List Int)} (hr : ∀ i (h : i < rows.length), rows[i].length ≤ 16) (hv : ∀ y (hy : y < rows.length) x (h : x < rows[y].length), 0 ≤ rows[y][x] ∧ rows[y][x] ≤ 1000) : ∀ k, k ≤ rows.length → 0 ≤ gsum rows k ∧ gsum rows k ≤ 16000 * k := by
  intro k
  induction k with
  | zero => intro _; simp [gsum]
  | succ k ih =>
    intro h
    have := ih (by omega)
    have h2 := rsum_bd (hv k (by omega)) rows[k].length (Nat.le_refl _)
    have h3 := hr k (by omega)
    rw [rsum_all] at h2
    rw [gsum_succ (by omega)]
    omega

end Go.Proofs.Ytkamkjbllmgifaa

namespace Go.Proofs.Ytkamkjbllmgifaa
open Go.RowKit

/-- The sum of the first k. -/
def sI (O : Nat → Int) : Nat → Int
  | 0 => 0
  | k + 1 => sI O k + O k
theorem sI_congr {O P : Nat → Int} : ∀ k, (∀ i, i < k → O i = P i) → sI O k = sI P k := by
  intro k
  induction k with
  | zero => intro _; rfl
  | succ k ih => intro h; rw [sI, sI, ih (fun i hi => h i (by omega)), h k (by omega)]
theorem sI_sub (O P : Nat → Int) : ∀ k, sI (fun i => O i - P i) k = sI O k - sI P k := by
  intro k
  induction k with
  | zero => rfl
  | succ k ih => rw [sI, sI, sI, ih]; omega
theorem sI_bd {O : Nat → Int} {n : Nat} (h : ∀ i, i < n → -100 ≤ O i ∧ O i ≤ 100) : ∀ k, k ≤ n → -100 * (k : Int) ≤ sI O k ∧ sI O k ≤ 100 * k := by
  intro k
  induction k with
  | zero => intro _; simp [sI]
  | succ k ih => intro hk; have := ih (by omega); have := h k (by omega); rw [sI]; omega
theorem rsum_sI {O : Nat → Int} {r : List Int} {W b : Nat} (hl : r.length = W) (hg : ∀ x (h : x < r.length), r[x] = O (b + x)) : ∀ j, j ≤ W → sI O (b + j) = sI O b + rsum r j := by
  intro j
  induction j with
  | zero => intro _; simp [rsum]
  | succ j ih => intro h; rw [rsum_succ (by omega), ← Nat.add_assoc, sI, ih (by omega), hg j (by omega)]; omega
theorem gsum_sI {O : Nat → Int} {rows : List (List Int)} {W : Nat} (hr : ∀ y (h : y < rows.length), rows[y].length = W) (hg : ∀ y (hy : y < rows.length) x (h : x < rows[y].length), rows[y][x] = O (y * W + x)) : ∀ k, k ≤ rows.length → gsum rows k = sI O (k * W) := by
  intro k
  induction k with
  | zero => intro _; simp [gsum, sI]
  | succ k ih =>
    intro h
    have := rsum_sI (b := k * W) (hr k (by omega)) (hg k (by omega)) W (Nat.le_refl _)
    rw [gsum_succ (by omega), ih (by omega), Nat.succ_mul, this, ← rsum_all, hr k (by omega)]
noncomputable def waterV (rows : List (List Int)) : Int := if greyOk rows then sI (spillF rows) (tabW rows * rows.length) - sI (gF rows (tabW rows)) (tabW rows * rows.length) else 0
theorem water_of {rows : List (List Int)} {W H n : Nat} (g : GreyN rows W H n) {O : Nat → Int} (h : IsPass W n (gF rows W) (fun i => edgeB W H i = true) O) : waterV rows = sI O n - sI (gF rows W) n := by
  rw [waterV, if_pos g.ok, g.w, g.h, ← g.n]
  congr 1
  apply sI_congr
  intro i hi
  rw [spillF, g.w, g.h, ← g.n]
  exact passL_get h hi
theorem GreyN.num {rows : List (List Int)} {W H n : Nat} (g : GreyN rows W H n) (i : Nat) (hi : i < n) : 0 ≤ gF rows W i ∧ gF rows W i ≤ 99 := gF_bd g.ok g.w i (by rw [g.h, ← g.n]; exact hi)

end Go.Proofs.Ytkamkjbllmgifaa

namespace Go.Proofs.Ytkamkjbllmgifaa
open Go.RowKit

open Classical in
/-- The first number below m with P, m if there is none. -/
noncomputable def firstP (P : Nat → Prop) : Nat → Nat
  | 0 => 0
  | m + 1 => if firstP P m < m then firstP P m else if P m then m else m + 1
theorem firstP_le (P : Nat → Prop) : ∀ m, firstP P m ≤ m := by
  intro m
  induction m with
  | zero => simp [firstP]
  | succ m ih => rw [firstP]; split; · omega
                 split <;> omega
theorem firstP_is (P : Nat → Prop) : ∀ m, firstP P m < m → P (firstP P m) := by
  intro m
  induction m with
  | zero => intro h; omega
  | succ m ih =>
    rw [firstP]
    split
    · rename_i h; exact fun _ => ih h
    · split
      · rename_i h; exact fun _ => h
      · intro h; omega
theorem firstP_least (P : Nat → Prop) : ∀ m k, P k → k < m → firstP P m ≤ k := by
  intro m
  induction m with
  | zero => intro k _ h; omega
  | succ m ih =>
    intro k hk hm
    rw [firstP]
    split
    · by_cases e : k < m
      · exact ih k hk e
      · omega
    · rename_i h
      have hnot : ∀ j, P j → m ≤ j := fun j hj => by
        by_cases e : j < m
        · have := ih j hj e; omega
        · omega
      have : k = m := by have := hnot k hk; omega
      subst this
      rw [if_pos hk]; exact Nat.le_refl _

section
variable {W n : Nat} {G : Nat → Int} {F : Nat → Prop}
/-- There are least heights. -/
theorem IsPass.ex (hG : ∀ i, i < n → 0 ≤ G i) : ∃ O, IsPass W n G F O := by
  refine ⟨fun i => ((firstP (fun k => Way W n G F ((k : Nat) : Int) i) 100 : Nat) : Int), fun i hi => ?_, fun i h w => ?_⟩
  · have a := firstP_le (fun k => Way W n G F ((k : Nat) : Int) i) 100
    have b := firstP_is (fun k => Way W n G F ((k : Nat) : Int) i) 100
    refine ⟨by omega, by omega, fun hl => b (by omega)⟩
  · have h0 := hG i w.lt
    have h1 := w.le
    by_cases e : h < 100
    · have e2 : ((h.toNat : Nat) : Int) = h := by omega
      have := firstP_least (fun k => Way W n G F ((k : Nat) : Int) i) 100 h.toNat (by show Way W n G F ((h.toNat : Nat) : Int) i; rw [e2]; exact w) (by omega)
      show ((firstP _ 100 : Nat) : Int) ≤ h
      omega
    · have a := firstP_le (fun k => Way W n G F ((k : Nat) : Int) i) 100
      show ((firstP _ 100 : Nat) : Int) ≤ h
      omega
variable {O : Nat → Int}
theorem IsPass.close (h : IsPass W n G F O) {q s : Nat} (ha : adj W n q s) (_hs : ∀ i, i < n → G i ≤ 99) : O s ≤ max (O q) (G s) := by
  have hq := h.sound q ha.1
  have hss := h.sound s ha.2.1
  by_cases e : O q < 100
  · exact h.least s _ (.step q s ((hq.2.2 e).mono (by omega)) ha (by omega))
  · omega
theorem IsPass.self (h : IsPass W n G F O) : IsPass W n O F O := by
  have hw : ∀ {k : Int} {i : Nat}, Way W n G F k i → Way W n O F k i := by
    intro k i w
    induction w with
    | start i hi hF hG => exact .start i hi hF (h.least i _ (.start i hi hF hG))
    | step q s wq ha hG ih => exact .step q s ih ha (h.least s _ (.step q s wq ha hG))
  refine IsPass.of_closed (fun i hi => ?_) (fun i _ _ => Int.le_refl _) (fun q s _ => by omega)
  obtain ⟨a, b, d⟩ := h.sound i hi
  exact ⟨a, b, fun hl => hw (d hl)⟩
theorem IsPass.ge (h : IsPass W n G F O) (hs : ∀ i, i < n → G i ≤ 99) (i : Nat) (hi : i < n) : G i ≤ O i := by
  obtain ⟨a, b, d⟩ := h.sound i hi
  by_cases e : O i < 100
  · exact (d e).le
  · have := hs i hi; omega
theorem IsPass.congrG {G' : Nat → Int} (h : IsPass W n G F O) (e : ∀ i, i < n → G i = G' i) : IsPass W n G' F O := by
  have tw : ∀ {A B : Nat → Int} {k : Int} {i : Nat}, (∀ i, i < n → A i = B i) → Way W n A F k i → Way W n B F k i := by
    intro A B k i hab w
    induction w with
    | start i hi hF hG => exact .start i hi hF (by rw [← hab i hi]; exact hG)
    | step q s _ ha hG ih => exact .step q s ih ha (by rw [← hab s ha.2.1]; exact hG)
  refine ⟨fun i hi => ?_, fun i k w => h.least i k (tw (fun i hi => (e i hi).symm) w)⟩
  obtain ⟨a, b, d⟩ := h.sound i hi
  exact ⟨a, b, fun hl => tw e (d hl)⟩
end

/-- Every place reaches the edge. -/
theorem edge_way {W H : Nat} {G : Nat → Int} (hG : ∀ i, i < W * H → G i ≤ 99) {x y : Nat} (hx : x < W) (hy : y < H) : Way W (W * H) G (fun i => edgeB W H i = true) 99 (y * W + x) := by
  induction x with
  | zero => exact .start _ (pl_lt hx hy) (by rw [edgeB_xy hx]; simp) (hG _ (pl_lt hx hy))
  | succ x ih =>
    refine .step _ _ (ih (by omega)) ?_ (hG _ (pl_lt hx hy))
    rw [adj_xy (by omega) hy hx hy]
    exact .inr ⟨rfl, .inl rfl⟩

/-- All that the law asks of the numbers. -/
structure Wtr (G O : Nat → Int) (W H : Nat) : Prop where
  lev : levR (gO G W H) = gO O W H
  bd : ∀ i, i < W * H → 0 ≤ O i ∧ O i ≤ 99
  ge : ∀ i, i < W * H → 0 ≤ O i - G i ∧ O i - G i ≤ 99
  edge : ∀ i, i < W * H → edgeB W H i = true → O i - G i = 0
  spill : ∀ x y, x < W → y < H → spillV (gO G W H) (x : Int) (y : Int) = O (y * W + x)
  isin : ∀ x y, x < W → y < H → inR (gO G W H) (x : Int) (y : Int) = true
  sum : waterV (gO G W H) = sI (fun i => O i - G i) (W * H)
  rest : waterV (gO O W H) = 0
  ok : greyOk (gO G W H) = true
  ok2 : greyOk (gO O W H) = true
  way : ∀ bs x y p h, x < W → y < H → ewTo (gF (gO G W H) W) W H bs ((x : Int), (y : Int)) bs.length = some (p, h) → inG W H p = true ∧ (edgeB W H (plc W p) = true → O (y * W + x) ≤ h)

theorem gF_gO (O : Nat → Int) {W H i : Nat} (h : i < W * H) (hW : 0 < W) : gF (gO O W H) W i = O i := by
  obtain ⟨e, hm⟩ := pl_eq i hW
  have hr := pl_row h
  rw [e, gF_at hm (by rw [gO_length]; exact hr) (by rw [gO_w]; exact hm), gO_get]
theorem stepP_adj {W H : Nat} {p : Int × Int} {k : Int} (h1 : inG W H p = true) (h2 : inG W H (stepP p k) = true) : adj W (W * H) (plc W (stepP p k)) (plc W p) := by
  obtain ⟨x, y⟩ := p
  obtain ⟨a, b, rfl, rfl, ha, hb, e1⟩ := inG_nat h1
  have h3 := inG_iff.1 h2
  rw [e1]
  unfold plc
  rw [adj_xy (by omega) (by omega) ha hb]
  unfold stepP at h3 ⊢
  split
  · simp_all
  · split
    · simp_all; omega
    · split
      · simp_all
      · simp_all; omega
theorem wtr_of (G : Nat → Int) {W H : Nat} (hW0 : 0 < W) (hW : W ≤ 16) (hH0 : 0 < H) (hH : H ≤ 16) (hG : ∀ i, i < W * H → 0 ≤ G i ∧ G i ≤ 99) : ∃ O, Wtr G O W H := by
  have g : GreyN (gO G W H) W H (W * H) := ⟨gO_ok hW0 hW hH0 hH hG, tabW_gO _ hH0, gO_length _ _ _, rfl⟩
  obtain ⟨O, hO'⟩ := IsPass.ex (W := W) (n := W * H) (G := G) (F := fun i => edgeB W H i = true) (fun i hi => (hG i hi).1)
  have hO : IsPass W (W * H) (gF (gO G W H) W) (fun i => edgeB W H i = true) O := hO'.congrG (fun i hi => (gF_gO G hi hW0).symm)
  have h99 : ∀ i, i < W * H → G i ≤ 99 := fun i hi => (hG i hi).2
  have bd : ∀ i, i < W * H → 0 ≤ O i ∧ O i ≤ 99 := fun i hi => by
    obtain ⟨e, hm⟩ := pl_eq i hW0
    have := hO'.least _ _ (edge_way h99 hm (pl_row hi))
    rw [← e] at this
    exact ⟨(hO'.sound i hi).1, this⟩
  have g2 : GreyN (gO O W H) W H (W * H) := ⟨gO_ok hW0 hW hH0 hH bd, tabW_gO _ hH0, gO_length _ _ _, rfl⟩
  have hO2 : IsPass W (W * H) (gF (gO O W H) W) (fun i => edgeB W H i = true) O := hO'.self.congrG (fun i hi => (gF_gO O hi hW0).symm)
  have isin : ∀ x y, x < W → y < H → inR (gO G W H) (x : Int) (y : Int) = true := fun x y hx hy => by
    rw [inR, g.ok, g.w, g.h, Bool.true_and, inG_iff]; simp; omega
  have plx : ∀ x y : Nat, plc W ((x : Int), (y : Int)) = y * W + x := fun x y => by simp [plc]
  refine ⟨O, lev_of g hO, bd, fun i hi => ?_, fun i hi he => ?_, fun x y hx hy => ?_, isin, ?_, ?_, g.ok, g2.ok, ?_⟩
  · have := hO'.ge h99 i hi
    have := bd i hi
    have := hG i hi
    omega
  · have := hO'.ge h99 i hi
    have := hO'.least i _ (.start i hi he (Int.le_refl _))
    omega
  · rw [spillV, if_pos (isin x y hx hy), spillF, pR, g.w, g.h, plx]
    exact passL_get hO (pl_lt hx hy)
  · rw [water_of g hO, sI_sub]
    congr 1
    exact sI_congr _ (fun i hi => gF_gO G hi hW0)
  · rw [water_of g2 hO2, sI_congr (O := gF (gO O W H) W) (P := O) _ (fun i hi => gF_gO O hi hW0)]
    omega
  · intro bs x y
    have key : ∀ k p h, k ≤ bs.length → x < W → y < H → ewTo (gF (gO G W H) W) W H bs ((x : Int), (y : Int)) k = some (p, h) → inG W H p = true ∧ O (y * W + x) ≤ max h (O (plc W p)) ∧ G (plc W p) ≤ h := by
      intro k
      induction k with
      | zero =>
        intro p h _ hx hy e
        simp only [ewTo, List.take_zero, List.foldl_nil, Option.some.injEq, Prod.mk.injEq] at e
        obtain ⟨rfl, rfl⟩ := e
        rw [plx, gF_gO G (pl_lt hx hy) hW0]
        refine ⟨by rw [inG_iff]; simp; omega, by omega, Int.le_refl _⟩
      | succ k ih =>
        intro p h hk hx hy e
        rw [ewTo_succ (by omega)] at e
        cases hp : ewTo (gF (gO G W H) W) W H bs ((x : Int), (y : Int)) k with
        | none => rw [hp] at e; cases e
        | some q =>
          obtain ⟨q, h0⟩ := q
          obtain ⟨i1, i2, i3⟩ := ih q h0 (by omega) hx hy hp
          rw [hp] at e
          simp only [ewS] at e
          split at e
          · cases e
          · split at e
            · rename_i hin
              simp only [Option.some.injEq, Prod.mk.injEq] at e
              obtain ⟨rfl, rfl⟩ := e
              have ha := stepP_adj i1 hin
              have hc := hO'.close ha h99
              rw [gF_gO G ha.1 hW0]
              refine ⟨hin, ?_, by omega⟩
              omega
            · cases e
    intro p h hx hy e
    obtain ⟨i1, i2, i3⟩ := key _ p h (Nat.le_refl _) hx hy e
    refine ⟨i1, fun he => ?_⟩
    have := hO'.least _ _ (.start _ (plc_lt i1) he (Int.le_refl _))
    omega
end Go.Proofs.Ytkamkjbllmgifaa
