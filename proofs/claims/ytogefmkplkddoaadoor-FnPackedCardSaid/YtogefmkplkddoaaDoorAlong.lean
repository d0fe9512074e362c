/- Curves: the smallest functions. The index of a spot on a curve. All spots in the order of a curve. The reference's curves. SpotAt, the program's and the reference's. Pictures along curves: the runs of a list of colours; the program's. -/
import Derived.Test.YtogefmkplkddoaaDoorBase
import Derived.Test.YtogefmkplkddoaaDoorMem
import Derived.Deep.RegionHeld3
import Derived.Test.YtogefmkplkddoaaDoorImgOf
import Derived.Test.YtogefmkplkddoaaDoorSMake
namespace Go.Proofs.YtogefmkplkddoaaDoor
open Go.RowKit

def curveOkB (c o : Int) : Bool := inB c 0 3 && inB o 0 4
/-- The side of an order. -/
def side (o : Int) : Int := 2 ^ o.toNat
theorem side_cases {o : Int} (h0 : 0 ≤ o) (h4 : o ≤ 4) : (o = 0 ∨ o = 1 ∨ o = 2 ∨ o = 3 ∨ o = 4) := by omega
theorem side_pos {o : Int} (h0 : 0 ≤ o) (h4 : o ≤ 4) : 1 ≤ side o := by
  rcases side_cases h0 h4 with rfl | rfl | rfl | rfl | rfl <;> decide
theorem side_le {o : Int} (h0 : 0 ≤ o) (h4 : o ≤ 4) : side o ≤ 16 := by
  rcases side_cases h0 h4 with rfl | rfl | rfl | rfl | rfl <;> decide
theorem side_wrap {o : Int} (h0 : 0 ≤ o) (h4 : o ≤ 4) : wrap64 (2 ^ o.toNat) = side o := by
  rcases side_cases h0 h4 with rfl | rfl | rfl | rfl | rfl <;> decide +kernel


/-- The index of a spot on the curve by turns. -/
def turnsI : Nat → Int → Int → Int
  | 0, _, _ => 0
  | k + 1, x, y =>
    if x < 2 ^ k then
      if y < 2 ^ k then turnsI k y x else 2 ^ k * 2 ^ k + turnsI k x (y - 2 ^ k)
    else if 2 ^ k ≤ y then 2 * (2 ^ k * 2 ^ k) + turnsI k (x - 2 ^ k) (y - 2 ^ k)
    else 3 * (2 ^ k * 2 ^ k) + turnsI k (2 ^ k - 1 - y) (2 ^ k - 1 - (x - 2 ^ k))

theorem two_pow_bd {k : Nat} (h : k ≤ 4) : (1 : Int) ≤ 2 ^ k ∧ (2 : Int) ^ k ≤ 16 ∧ wrap64 (2 ^ k) = 2 ^ k ∧ (2 : Int) ^ k * 2 ^ k ≤ 256 ∧ (1 : Int) ≤ 2 ^ k * 2 ^ k := by
  have : k = 0 ∨ k = 1 ∨ k = 2 ∨ k = 3 ∨ k = 4 := by omega
  rcases this with rfl | rfl | rfl | rfl | rfl <;> decide +kernel
theorem turnsI_bd : ∀ (k : Nat) (x y : Int), k ≤ 4 → 0 ≤ x → x < 2 ^ k → 0 ≤ y → y < 2 ^ k → 0 ≤ turnsI k x y ∧ turnsI k x y < 2 ^ k * 2 ^ k := by
  intro k
  induction k with
  | zero => intro x y _ _ _ _ _; exact ⟨by simp [turnsI], by simp [turnsI]⟩
  | succ k ih =>
    intro x y hk hx0 hx hy0 hy
    have e : (2 : Int) ^ (k + 1) = 2 * 2 ^ k := by rw [Int.pow_succ]; omega
    rw [e] at hx hy ⊢
    have e2 : (2 * 2 ^ k * (2 * 2 ^ k) : Int) = 4 * (2 ^ k * 2 ^ k) := by
      rw [Int.mul_assoc, Int.mul_left_comm (2 ^ k) 2 (2 ^ k), ← Int.mul_assoc]; omega
    rw [e2]
    obtain ⟨h1, h2, _, h3, h4⟩ := two_pow_bd (k := k) (by omega)
    unfold turnsI
    generalize hA : (2 : Int) ^ k * 2 ^ k = A at *
    generalize hH : (2 : Int) ^ k = H at *
    split
    · split
      · have := ih y x (by omega) hy0 (by omega) hx0 (by omega); omega
      · have := ih x (y - H) (by omega) hx0 (by omega) (by omega) (by omega); omega
    · split
      · have := ih (x - H) (y - H) (by omega) (by omega) (by omega) (by omega) (by omega); omega
      · have := ih (H - 1 - y) (H - 1 - (x - H)) (by omega) (by omega) (by omega) (by omega) (by omega); omega

end Go.Proofs.YtogefmkplkddoaaDoor

namespace Go.Proofs.YtogefmkplkddoaaDoor
open Go.RowKit

def bitsI : Nat → Int → Int → Int
  | 0, _, _ => 0
  | k + 1, x, y => bitsI k x y + x / 2 ^ k % 2 * 2 ^ (2 * k) + y / 2 ^ k % 2 * 2 ^ (2 * k + 1)
def idxI (c o x y : Int) : Int :=
  if c = 0 then y * side o + x
  else if c = 1 then (if y % 2 = 1 then y * side o + side o - 1 - x else y * side o + x)
  else if c = 2 then bitsI o.toNat x y
  else turnsI o.toNat x y

theorem and_one (a : Int) (h0 : 0 ≤ a) (h : a < 16) : bits BinOp.and IntKind.i64 a 1 = a % 2 := by
  have : ∀ n : Fin 16, bits BinOp.and IntKind.i64 (n.val : Int) 1 = (n.val : Int) % 2 := by decide +kernel
  obtain ⟨n, rfl⟩ := Int.eq_ofNat_of_zero_le h0
  exact this ⟨n, by omega⟩
theorem bitsI_bd : ∀ (k : Nat) (x y : Int), k ≤ 4 → 0 ≤ bitsI k x y ∧ bitsI k x y < 4 ^ k := by
  intro k x y hk
  induction k with
  | zero => exact ⟨by simp [bitsI], by simp [bitsI]⟩
  | succ k ih =>
    have := ih (by omega)
    have a1 : x / 2 ^ k % 2 = 0 ∨ x / 2 ^ k % 2 = 1 := by omega
    have a2 : y / 2 ^ k % 2 = 0 ∨ y / 2 ^ k % 2 = 1 := by omega
    have hk' : k = 0 ∨ k = 1 ∨ k = 2 ∨ k = 3 := by omega
    unfold bitsI
    generalize x / 2 ^ k % 2 = a at *
    generalize y / 2 ^ k % 2 = b at *
    rcases hk' with rfl | rfl | rfl | rfl <;> rcases a1 with rfl | rfl <;> rcases a2 with rfl | rfl <;> simp at * <;> omega
theorem bits_step (k : Nat) (x y : Int) (hk : k < 4) (hx0 : 0 ≤ x) (hx : x < 16) (hy0 : 0 ≤ y) (hy : y < 16) :
    wrap64 (wrap64 (bitsI k x y + wrap64 (bits BinOp.and IntKind.i64 (x / 2 ^ k) 1 * 2 ^ (2 * k))) + wrap64 (bits BinOp.and IntKind.i64 (y / 2 ^ k) 1 * 2 ^ (2 * k + 1))) = bitsI (k + 1) x y := by
  have hp : (1 : Int) ≤ 2 ^ k := by have := two_pow_bd (k := k) (by omega); omega
  have e1 : 0 ≤ x / 2 ^ k ∧ x / 2 ^ k < 16 := ⟨Int.ediv_nonneg hx0 (by omega), by
    have := Int.ediv_le_self (b := 2 ^ k) hx0; omega⟩
  have e2 : 0 ≤ y / 2 ^ k ∧ y / 2 ^ k < 16 := ⟨Int.ediv_nonneg hy0 (by omega), by
    have := Int.ediv_le_self (b := 2 ^ k) hy0; omega⟩
  rw [and_one _ e1.1 e1.2, and_one _ e2.1 e2.2]
  have B := bitsI_bd k x y (by omega)
  have a1 : x / 2 ^ k % 2 = 0 ∨ x / 2 ^ k % 2 = 1 := by omega
  have a2 : y / 2 ^ k % 2 = 0 ∨ y / 2 ^ k % 2 = 1 := by omega
  have hk' : k = 0 ∨ k = 1 ∨ k = 2 ∨ k = 3 := by omega
  show _ = bitsI k x y + x / 2 ^ k % 2 * 2 ^ (2 * k) + y / 2 ^ k % 2 * 2 ^ (2 * k + 1)
  generalize bitsI k x y = n at *
  generalize x / 2 ^ k % 2 = a at *
  generalize y / 2 ^ k % 2 = b at *
  simp only [wrap64]
  rcases hk' with rfl | rfl | rfl | rfl <;> rcases a1 with rfl | rfl <;> rcases a2 with rfl | rfl <;> simp at * <;> omega

end Go.Proofs.YtogefmkplkddoaaDoor

namespace Go.Proofs.YtogefmkplkddoaaDoor
open Go.RowKit

def visRow (c o : Int) (y : Nat) (L : List (Int × Int)) : Nat → List (Int × Int)
  | 0 => L
  | m + 1 => (visRow c o y L m).set (idxI c o m y).toNat ((m : Int), (y : Int))
def visTo (c o : Int) (s : Nat) : Nat → List (Int × Int)
  | 0 => List.replicate (s * s) (0, 0)
  | k + 1 => visRow c o k (visTo c o s k) s
theorem visRow_length (c o : Int) (y : Nat) (L : List (Int × Int)) : ∀ m, (visRow c o y L m).length = L.length := by
  intro m
  induction m with
  | zero => rfl
  | succ m ih => simp [visRow, ih]
theorem visTo_length (c o : Int) (s : Nat) : ∀ k, (visTo c o s k).length = s * s := by
  intro k
  induction k with
  | zero => simp [visTo]
  | succ k ih => simp [visTo, visRow_length, ih]

theorem turnsI_lt (k : Nat) (hk : k ≤ 4) (x y : Int) (hx0 : 0 ≤ x) (hx : x < side k) (hy0 : 0 ≤ y) (hy : y < side k) : 0 ≤ turnsI k x y ∧ turnsI k x y < side k * side k :=
  turnsI_bd k x y hk hx0 hx hy0 hy
theorem idxI_bd (c o x y : Int) (h0 : 0 ≤ o) (h4 : o ≤ 4) (hx0 : 0 ≤ x) (hx : x < side o) (hy0 : 0 ≤ y) (hy : y < side o) :
    0 ≤ idxI c o x y ∧ idxI c o x y < side o * side o := by
  have hs := side_pos h0 h4
  have h1 : y * side o ≤ (side o - 1) * side o := Int.mul_le_mul_of_nonneg_right (by omega) (by omega)
  have h2 : (side o - 1) * side o = side o * side o - side o := by rw [Int.sub_mul, Int.one_mul]
  have h3 : 0 ≤ y * side o := Int.mul_nonneg hy0 (by omega)
  rw [h2] at h1
  unfold idxI
  split
  · omega
  · split
    · split <;> omega
    · split
      · have := bitsI_bd o.toNat x y (by omega)
        have e : (4 : Int) ^ o.toNat = side o * side o := by
          rcases side_cases h0 h4 with rfl | rfl | rfl | rfl | rfl <;> decide +kernel
        omega
      · obtain ⟨k, rfl⟩ := Int.eq_ofNat_of_zero_le h0
        exact turnsI_lt k (by omega) x y hx0 hx hy0 hy

end Go.Proofs.YtogefmkplkddoaaDoor

namespace Go.Proofs.YtogefmkplkddoaaDoor
open Go.RowKit

theorem or_check : ∀ (k : Fin 4) (n : Fin 64) (a b : Fin 2), n.val < 4 ^ k.val → bits BinOp.or IntKind.i64 (n.val : Int) (bits BinOp.or IntKind.i64 ((a.val * 2 ^ (2 * k.val) : Nat) : Int) ((b.val * 2 ^ (2 * k.val + 1) : Nat) : Int)) = ((n.val + a.val * 2 ^ (2 * k.val) + b.val * 2 ^ (2 * k.val + 1) : Nat) : Int) := by decide +kernel

theorem bitsS_step (k : Nat) (x y : Int) (hk : k < 4) (hx0 : 0 ≤ x) (hx : x < 16) (hy0 : 0 ≤ y) (hy : y < 16) :
    bits BinOp.or IntKind.i64 (bitsI k x y) (bits BinOp.or IntKind.i64 (wrap64 (bits BinOp.and IntKind.i64 (x / 2 ^ k) 1 * 2 ^ (2 * k))) (wrap64 (bits BinOp.and IntKind.i64 (y / 2 ^ k) 1 * 2 ^ (2 * k + 1)))) = bitsI (k + 1) x y := by
  have hp : (1 : Int) ≤ 2 ^ k := by have := two_pow_bd (k := k) (by omega); omega
  have e1 : 0 ≤ x / 2 ^ k ∧ x / 2 ^ k < 16 := ⟨Int.ediv_nonneg hx0 (by omega), by
    have := Int.ediv_le_self (b := 2 ^ k) hx0; omega⟩
  have e2 : 0 ≤ y / 2 ^ k ∧ y / 2 ^ k < 16 := ⟨Int.ediv_nonneg hy0 (by omega), by
    have := Int.ediv_le_self (b := 2 ^ k) hy0; omega⟩
  rw [and_one _ e1.1 e1.2, and_one _ e2.1 e2.2]
  have B := bitsI_bd k x y (by omega)
  have a1 : x / 2 ^ k % 2 = 0 ∨ x / 2 ^ k % 2 = 1 := by omega
  have a2 : y / 2 ^ k % 2 = 0 ∨ y / 2 ^ k % 2 = 1 := by omega
  show _ = bitsI k x y + x / 2 ^ k % 2 * 2 ^ (2 * k) + y / 2 ^ k % 2 * 2 ^ (2 * k + 1)
  have h64 : (4 : Int) ^ k ≤ 64 := by
    have hk' : k = 0 ∨ k = 1 ∨ k = 2 ∨ k = 3 := by omega
    rcases hk' with rfl | rfl | rfl | rfl <;> decide
  obtain ⟨n, hn⟩ := Int.eq_ofNat_of_zero_le B.1
  obtain ⟨a, ha⟩ := Int.eq_ofNat_of_zero_le (show 0 ≤ x / 2 ^ k % 2 by omega)
  obtain ⟨b, hb⟩ := Int.eq_ofNat_of_zero_le (show 0 ≤ y / 2 ^ k % 2 by omega)
  rw [hn, ha, hb]
  have hn4 : n < 4 ^ k := by
    have h := B.2; rw [hn] at h; exact_mod_cast h
  have C := or_check ⟨k, hk⟩ ⟨n, by omega⟩ ⟨a, by omega⟩ ⟨b, by omega⟩ hn4
  have w1 : wrap64 ((a : Int) * 2 ^ (2 * k)) = ((a * 2 ^ (2 * k) : Nat) : Int) := by
    have hk' : k = 0 ∨ k = 1 ∨ k = 2 ∨ k = 3 := by omega
    rcases hk' with rfl | rfl | rfl | rfl <;> simp [wrap64] <;> omega
  have w2 : wrap64 ((b : Int) * 2 ^ (2 * k + 1)) = ((b * 2 ^ (2 * k + 1) : Nat) : Int) := by
    have hk' : k = 0 ∨ k = 1 ∨ k = 2 ∨ k = 3 := by omega
    rcases hk' with rfl | rfl | rfl | rfl <;> simp [wrap64] <;> omega
  rw [w1, w2, C]
  simp

end Go.Proofs.YtogefmkplkddoaaDoor

namespace Go.Proofs.YtogefmkplkddoaaDoor
open Go.RowKit

/-- What SpotAt answers. -/
def spotOk (c o n : Int) : Bool := curveOkB c o && inB n 0 (side o * side o - 1)
def spotP (c o n : Int) : Int × Int := if spotOk c o n then (visTo c o (side o).toNat (side o).toNat).getD n.toNat (0, 0) else (0, 0)
def spotV (p : Int × Int) : Value := .agg #[.int .i64 p.1, .int .i64 p.2]

theorem curveOk_iff {c o : Int} : curveOkB c o = true ↔ (0 ≤ c ∧ c ≤ 3) ∧ 0 ≤ o ∧ o ≤ 4 := by simp [curveOkB, inB]

theorem spot_ret {c o n : Int} {p : Int × Int} {b : Bool} (h : spotP c o n = p ∧ spotOk c o n = b) : Ending.returned (.tuple #[.agg #[.int .i64 p.1, .int .i64 p.2], .bool b]) = .returned (.tuple #[spotV (spotP c o n), .bool (spotOk c o n)]) := by
  rw [h.1, h.2]; rfl

end Go.Proofs.YtogefmkplkddoaaDoor

namespace Go.Proofs.YtogefmkplkddoaaDoor
open Go.RowKit

/-- One more colour. -/
def incL (l : List Int) : List Int := l.set (l.length - 1) (l.getD (l.length - 1) 0 + 1)
def colS (s : List Int × Bool) (b : Bool) : List Int × Bool := if b = s.2 then (incL s.1, b) else (incL (s.1 ++ [0]), b)
def colTo (bs : List Bool) (k : Nat) : List Int × Bool := (bs.take k).foldl colS ([0], false)
def colR (bs : List Bool) : List Int := (colTo bs bs.length).1
theorem colTo_zero (bs : List Bool) : colTo bs 0 = ([0], false) := by simp [colTo]
theorem colTo_succ {bs : List Bool} {k : Nat} (h : k < bs.length) : colTo bs (k + 1) = colS (colTo bs k) bs[k] := by
  unfold colTo
  rw [List.take_add_one, List.getElem?_eq_getElem h, List.foldl_append]
  rfl
theorem incL_length (l : List Int) : (incL l).length = l.length := by simp [incL]
theorem colS_length (s : List Int × Bool) (b : Bool) : (colS s b).1.length = if b = s.2 then s.1.length else s.1.length + 1 := by
  unfold colS; split <;> simp [incL_length]
/-- The runs are few and short. -/
theorem colTo_bd (bs : List Bool) : ∀ k, k ≤ bs.length → 0 < (colTo bs k).1.length ∧ (colTo bs k).1.length ≤ k + 1 ∧ ∀ i (h : i < (colTo bs k).1.length), 0 ≤ (colTo bs k).1[i] ∧ (colTo bs k).1[i] ≤ k := by
  intro k
  induction k with
  | zero => intro _; rw [colTo_zero]; simp
  | succ k ih =>
    intro h
    obtain ⟨h1, h2, h3⟩ := ih (by omega)
    rw [colTo_succ (by omega)]
    generalize colTo bs k = s at *
    have inc : ∀ (l : List Int), 0 < l.length → (∀ i (h : i < l.length), 0 ≤ l[i] ∧ l[i] ≤ (k : Int)) → ∀ i (h : i < (incL l).length), 0 ≤ (incL l)[i] ∧ (incL l)[i] ≤ ((k + 1 : Nat) : Int) := by
      intro l hl hb i hi
      rw [incL_length] at hi
      simp only [incL, List.getElem_set]
      split
      · rename_i e
        have := hb (l.length - 1) (by omega)
        rw [List.getD_eq_getElem?_getD, List.getElem?_eq_getElem (by omega)]
        simp only [Option.getD_some]
        omega
      · have := hb i hi; omega
    unfold colS
    split
    · refine ⟨by simpa [incL_length] using h1, by simp only [incL_length]; omega, inc _ h1 h3⟩
    · refine ⟨by simp [incL_length], by simp [incL_length]; omega, inc _ (by simp) (fun i hi => ?_)⟩
      simp only [List.length_append, List.length_cons, List.length_nil] at hi
      by_cases e : i < s.1.length
      · rw [List.getElem_append_left e]; exact h3 i e
      · rw [List.getElem_append_right (by omega)]; simp

def ordOf (n : Int) : Int := if n = 1 then 0 else if n = 2 then 1 else if n = 4 then 2 else if n = 8 then 3 else if n = 16 then 4 else -1
theorem ordOf_side {n : Int} (h : 0 ≤ ordOf n) : 0 ≤ ordOf n ∧ ordOf n ≤ 4 ∧ side (ordOf n) = n := by
  unfold ordOf at *
  split <;> rename_i h1
  · subst h1; decide
  split <;> rename_i h1
  · subst h1; decide
  split <;> rename_i h1
  · subst h1; decide
  split <;> rename_i h1
  · subst h1; decide
  split <;> rename_i h1
  · subst h1; decide
  · simp_all

/-- The colours along a curve. -/
def alB (L : List Bool) (W H : Nat) (V : List (Int × Int)) : List Bool := V.map fun p => bit L W H p.1 p.2
theorem alB_length (L : List Bool) (W H : Nat) (V : List (Int × Int)) : (alB L W H V).length = V.length := by simp [alB]

theorem ints_inc {l : List Int} (_h : 0 < l.length) : (ints l).set (l.length - 1) (.int .i64 (l.getD (l.length - 1) 0 + 1)) = ints (incL l) := by
  simp [ints, incL, List.map_set]
theorem ints_last {l : List Int} (h : 0 < l.length) : (ints l)[l.length - 1]? = some (.int .i64 (l.getD (l.length - 1) 0)) := by
  simp [ints, List.getD_eq_getElem?_getD, List.getElem?_eq_getElem (show l.length - 1 < l.length by omega)]
set_option maxRecDepth 100000 in
set_option maxHeartbeats 1000000 in
theorem colours_any (A : Option Addr) (cc n : Nat) (bs : List Bool) (w : World) (h : Rd w A (bools bs)) (hl : bs.length = n) (hn : n ≤ 1000000) :
    Calls Tryd.prog 91 #[.slice A n cc] w fun e w' => ∃ A' c', e = .returned (.slice A' (colR bs).length c') ∧ w'.ownsRow w.heap.size 2 1 (.slice A' (colR bs).length c') (colR bs).length (ints (colR bs)) ∧ Below w.heap.size w w' := by
  have RH := Lib.hid (fun V (hb : Below w.heap.size w V) => h.ext hb)
  have HL := Lib.hid hl
  have CR : Hid (colR bs = (colTo bs n).1) := by rw [Hid, ← hl]; rfl
  have CB := Lib.hid (fun k (h : k ≤ n) => colTo_bd bs k (by omega))
  have CS := Lib.hid (fun k (h : k < bs.length) => colTo_succ h)
  have C0 := Lib.hid (colTo_zero bs)
  clear h hl
  rw [CR.out]
  have hrow0 := World.ownsRow_lit (e := 2) (size := 1) w #[.int .i64 0] 1 (Nat.le_refl _) (by decide) rfl
  have BM : Below w.heap.size w (w.alloc (.cells #[.int .i64 0] 2)) := Ext.more (Ext.refl _) _
  go_enter Tryd.func91, Tryd.ntmps91
  go_wp2_with fail
  generalize w.alloc (.cells #[.int .i64 0] 2) = w0 at *
  go_loopw [3, 4, 6, 10] (fun v f _ i wr => ∃ (k gb cb : Nat), k ≤ n ∧ i = .int .i64 k ∧ v = .slice (some ⟨gb, 0, none⟩) (colTo bs k).1.length cb ∧ f = .bool (colTo bs k).2 ∧ wr.ownsRow w.heap.size 2 1 (.slice (some ⟨gb, 0, none⟩) (colTo bs k).1.length cb) (colTo bs k).1.length (ints (colTo bs k).1) ∧ Below w.heap.size w wr) (fun _ _ _ i _ => n - (intOf i).toNat)
  case atStart => exact ⟨0, w.heap.size, 1, Nat.zero_le _, rfl, by rw [C0.out]; rfl, by rw [C0.out], by rw [C0.out]; exact hrow0, BM⟩
  case round =>
    obtain ⟨k, gb, cb, hk, rfl, rfl, rfl, hown, hb⟩ := hrel
    clear hrow0 BM
    by_cases hlt : k < n
    · have hkb : k < bs.length := by rw [HL.out]; exact hlt
      obtain ⟨g, rfl, hg, hc⟩ := RH.out wr hb (by simp [bools]; omega)
      have c1 := hc k (by simpa [bools] using hkb)
      have e1 : (bools bs)[k]'(by simpa [bools] using hkb) = .bool bs[k] := by simp [bools]
      rw [e1] at c1
      obtain ⟨b1, b2, b3⟩ := CB.out k (by omega)
      have S := Lib.hid (CS.out k hkb)
      clear hc e1
      generalize bs[k] = b at *
      obtain ⟨st, hst⟩ : ∃ st, colTo bs k = st := ⟨_, rfl⟩
      rw [hst] at hown b1 b2 b3 S ⊢
      clear hst
      obtain ⟨l, now⟩ := st
      simp only at hown b1 b2 b3 ⊢
      have hgl := (hown.lt gb rfl).1
      have hgl2 := (hown.lt gb rfl).2
      have i0 : (0 : Int) ≤ (k : Int) := by omega
      have i1 : (k : Int) < (n : Int) := by omega
      have lastb : ∀ (l : List Int), 0 < l.length → (∀ i (h : i < l.length), 0 ≤ l[i] ∧ l[i] ≤ (k : Int)) → 0 ≤ l.getD (l.length - 1) 0 ∧ l.getD (l.length - 1) 0 ≤ (k : Int) := by
        intro l h1 h2
        rw [List.getD_eq_getElem?_getD, List.getElem?_eq_getElem (by omega)]
        exact h2 _ _
      by_cases he : b = now
      · subst he
        have E : Hid (colTo bs (k + 1) = (incL l, b)) := by rw [Hid, S.out]; simp [colS]
        obtain ⟨m, hm⟩ : ∃ m, l.length = m := ⟨_, rfl⟩
        have lb := lastb l b1 b3
        have k1 := (hown.cellAt (l.length - 1) (by omega)).trans (ints_last b1)
        have f1 := hown.frozenAt (l.length - 1)
        have st := hown.stored (l.length - 1) (.int .i64 (l.getD (l.length - 1) 0 + 1))
        have hset := ints_inc b1
        rw [hset] at st
        rw [hm] at k1 f1 lb hown b1 b2 st ⊢
        have LI : Hid ((incL l).length = m) := by rw [Hid, incL_length, hm]
        have HST := Lib.hid st
        generalize l.getD (m - 1) 0 = lv at *
        have t1 : (b != b) = false := by simp
        have j0 : (0 : Int) ≤ (m : Int) - 1 := by omega
        have j1 : (m : Int) - 1 < (m : Int) := by omega
        have j2 : ((m : Int) - 1).toNat = m - 1 := by omega
        clear hset st hown hm b3 lastb S
        go_wp2_with fail
        go_roundw
        case rel => exact ⟨k + 1, gb, cb, by omega, by go_num, by rw [E.out]; simp only [LI.out], by rw [E.out], by rw [E.out]; simp only [LI.out]; exact HST.out.1, hb.setCell (p := ⟨gb, _, none⟩) hgl _⟩
        case measure => simp [intOf]; omega
      · have E : Hid (colTo bs (k + 1) = (incL (l ++ [0]), b)) := by rw [Hid, S.out]; simp [colS, he]
        obtain ⟨m, hm⟩ : ∃ m, l.length = m := ⟨_, rfl⟩
        have hm1 : (l ++ [0]).length = m + 1 := by simp [hm]
        have il := ints_last (l := l ++ [0]) (by omega)
        have hset := ints_inc (l := l ++ [0]) (by omega)
        have g0 : (l ++ [0]).getD m 0 = (0 : Int) := by rw [← hm]; simp [List.getD_eq_getElem?_getD]
        rw [hm1, Nat.add_sub_cancel, g0] at il hset
        have LI : Hid ((incL (l ++ [0])).length = m + 1) := by rw [Hid, incL_length, hm1]
        have EA : Hid (ints (l ++ [0]) = ints l ++ [.int .i64 0]) := by simp [Hid, ints]
        rw [hm] at hown b1 b2 ⊢
        obtain rfl : now = !b := by cases b <;> cases now <;> simp_all
        have IL := Lib.hid (And.intro il hset)
        generalize incL (l ++ [0]) = l2 at *
        clear hm hm1 il hset g0 lastb S b3 he
        cases b
        all_goals
          go_wp2_with (at_builtin; refine wpList_app intT (by rfl) _ _ (by rfl) w.heap.size (.slice (some ⟨gb, 0, none⟩) m cb) m (ints l) (by rfl) (hown.alloc _) wr.heap.size #[.int .i64 0] (by rfl) (heap_alloc_new _ _) rfl (by simp [Value.oneCell']) (by omega) (by simp; omega) ?_; intro g3 cap3 w3 hown3 hgrow3 hat3 hlt3; have hown4 : w3.ownsRow w.heap.size 2 1 (.slice (some ⟨g3, 0, none⟩) (m + 1) cap3) (m + 1) (ints (l ++ [0])) := (by rw [EA.out]; simpa using hown3); have B3 : Below w.heap.size w w3 := (hb.alloc hb.size _).grown hgrow3 (by simp; omega) (fun z hz => (hown.lt z hz).1); have k1 := (hown4.cellAt m (by omega)).trans IL.out.1; have f1 := hown4.frozenAt m; have st := hown4.stored m (.int .i64 (0 + 1)); rw [IL.out.2] at st; have HST := Lib.hid st; have g3l := (hown4.lt g3 rfl).1; clear st hown3 hown4 hgrow3 hat3)
          go_roundw
          case rel => exact ⟨k + 1, g3, cap3, by omega, by go_num, by rw [E.out]; simp only [LI.out], by rw [E.out], by rw [E.out]; simp only [LI.out]; exact HST.out.1, B3.setCell (p := ⟨g3, _, none⟩) g3l _⟩
          case measure => simp [intOf]; omega
    · obtain rfl : k = n := by omega
      go_wp2_with fail
      go_ret
      exact ⟨_, _, rfl, hown, hb⟩
end Go.Proofs.YtogefmkplkddoaaDoor
