/- slices.SortStableFunc at spots: swapRange, rotate, insertion, symmetric merges, blocks. -/
import Derived.Test.YtkamkjbllmgifaaEq
import Derived.Test.YtkamkjbllmgifaaStbP
namespace Go.Proofs.Ytkamkjbllmgifaa
open Go.RowKit

/-- A row of n spots in a block of its own. -/
structure SpF (w : World) (g n : Nat) (d : Nat → Int × Int) : Prop where
  lt : g < w.heap.size
  cell : ∀ i, i < n → w.cell? ⟨g, i * 2, none⟩ = some (.int .i64 (d i).1) ∧ w.cell? ⟨g, i * 2 + 1, none⟩ = some (.int .i64 (d i).2)
  free : ∀ k, w.frozen? ⟨g, k, none⟩ = false
def updS (d : Nat → Int × Int) (i : Nat) (v : Int × Int) : Nat → Int × Int := fun x => if x = i then v else d x
theorem SpF.put {w : World} {g n : Nat} {d : Nat → Int × Int} (h : SpF w g n d) (i : Nat) (v : Int × Int) (hi : i < n) : SpF ((w.setCell ⟨g, i * 2, none⟩ (.int .i64 v.1)).setCell ⟨g, i * 2 + 1, none⟩ (.int .i64 v.2)) g n (updS d i v) := by
  refine ⟨by simpa using h.lt, fun j hj => ?_, fun k => by simpa using h.free k⟩
  obtain ⟨c1, c2⟩ := h.cell j hj
  unfold updS
  by_cases e : j = i
  · subst e
    rw [if_pos rfl]
    constructor
    · rw [World.cell?_setCell_other _ _ _ _ (by intro e; injection e with _ e; omega)]
      exact World.cell?_setCell_same _ _ _ c1
    · refine World.cell?_setCell_same (u := .int .i64 (d j).2) _ _ _ ?_
      rw [World.cell?_setCell_other _ _ _ _ (by intro e; injection e with _ e; omega)]
      exact c2
  · rw [if_neg e]
    constructor
    · rw [World.cell?_setCell_other _ _ _ _ (by intro e; injection e with _ e; omega), World.cell?_setCell_other _ _ _ _ (by intro e; injection e with _ e; omega)]
      exact c1
    · rw [World.cell?_setCell_other _ _ _ _ (by intro e; injection e with _ e; omega), World.cell?_setCell_other _ _ _ _ (by intro e; injection e with _ e; omega)]
      exact c2
theorem SpF.swap {w : World} {g n : Nat} {d : Nat → Int × Int} (h : SpF w g n d) (i j : Nat) (hi : i < n) (hj : j < n) (hij : i ≠ j) :
    SpF ((((w.setCell ⟨g, i * 2, none⟩ (.int .i64 (d j).1)).setCell ⟨g, i * 2 + 1, none⟩ (.int .i64 (d j).2)).setCell ⟨g, j * 2, none⟩ (.int .i64 (d i).1)).setCell ⟨g, j * 2 + 1, none⟩ (.int .i64 (d i).2)) g n (Stb.swp d i j) := by
  have := (h.put i (d j) hi).put j (d i) hj
  have e : updS (updS d i (d j)) j (d i) = Stb.swp d i j := by
    funext x
    unfold updS Stb.swp
    repeat' split
    all_goals first | rfl | omega
  rw [e] at this
  exact this
theorem SpF.draw {w : World} {g n : Nat} {d : Nat → Int × Int} (h : SpF w g n d) : SpF w.drew g n d := ⟨h.lt, h.cell, h.free⟩
theorem SpF.ext {w w' : World} {g n : Nat} {d : Nat → Int × Int} (h : SpF w g n d) (hb : Below w.heap.size w w') : SpF w' g n d :=
  ⟨Nat.lt_of_lt_of_le h.lt hb.size, fun i hi => ⟨(hb.cell (p := ⟨g, i * 2, none⟩) h.lt).trans (h.cell i hi).1, (hb.cell (p := ⟨g, i * 2 + 1, none⟩) h.lt).trans (h.cell i hi).2⟩, fun k => (hb.frozen (p := ⟨g, k, none⟩) h.lt).trans (h.free k)⟩
abbrev Only (g : Nat) (w w' : World) : Prop := Chg (fun b => b = g) w w'
theorem Only.ext {g : Nat} {a b c : World} (h : Only g a b) (hb : Below b.heap.size b c) : Only g a c :=
  h.trans ⟨hb.os, hb.tape, hb.output, hb.size, fun k hk _ => hb.block k hk⟩
theorem Only.draw {g : Nat} {a b : World} (h : Only g a b) : Only g a b.drew := h.drewN 1

set_option maxRecDepth 100000 in
set_option maxHeartbeats 1000000 in
theorem swapRange_any (g n c : Nat) (d : Nat → Int × Int) (a b k : Nat) (F : Value) (w : World) (h : SpF w g n d) (h1 : a + k ≤ b) (h2 : b + k ≤ n) (hn : n ≤ 1000000) :
    Calls Try.prog 134 #[.slice (some ⟨g, 0, none⟩) n c, .int .i64 a, .int .i64 b, .int .i64 k, F] w fun e' w' => e' = .returned (.tuple #[]) ∧ SpF w' g n (Stb.swr d a b k) ∧ Only g w w' := by
  go_enter Try.func134, Try.ntmps134
  go_wp2_with fail
  go_loopw [10] (fun i wr => ∃ j : Nat, j ≤ k ∧ i = .int .i64 j ∧ SpF wr g n (Stb.swr d a b j) ∧ Only g w wr) (fun i _ => k - (intOf i).toNat)
  case atStart => exact ⟨0, Nat.zero_le _, rfl, by rw [Stb.swr_zero]; exact h, Chg.refl _ _⟩
  case round =>
    obtain ⟨j, hj, rfl, hS, hC⟩ := hrel
    clear h
    by_cases hlt : j < k
    · have wa : IntKind.i64.wrap ((a : Int) + j) = ((a + j : Nat) : Int) := by rw [IntWalk.i64_in _ (by omega)]; simp
      have wb : IntKind.i64.wrap ((b : Int) + j) = ((b + j : Nat) : Int) := by rw [IntWalk.i64_in _ (by omega)]; simp
      have wj : IntKind.i64.wrap ((j : Int) + 1) = ((j + 1 : Nat) : Int) := by rw [IntWalk.i64_in _ (by omega)]; simp
      have tj : (j : Int) < k := by omega
      have i0 : (0 : Int) ≤ ((a + j : Nat) : Int) := by omega
      have i1 : ((a + j : Nat) : Int) < (n : Int) := by omega
      have i2 : (0 : Int) ≤ ((b + j : Nat) : Int) := by omega
      have i3 : ((b + j : Nat) : Int) < (n : Int) := by omega
      obtain ⟨c1, c2⟩ := hS.cell (a + j) (by omega)
      obtain ⟨c3, c4⟩ := hS.cell (b + j) (by omega)
      have f := hS.free
      have HS := Lib.hid (hS.swap (a + j) (b + j) (by omega) (by omega) (by omega))
      rw [Stb.swr_step _ _ _ _ (by omega)] at HS
      have HC := Lib.hid hC
      clear hS hC
      generalize Stb.swr d a b j (a + j) = x at *
      generalize Stb.swr d a b j (b + j) = y at *
      obtain ⟨x1, x2⟩ := x
      obtain ⟨y1, y2⟩ := y
      go_wp2_with fail
      go_region
      all_goals go_wp2_with fail
      all_goals exact ⟨⟨j + 1, by omega, by go_num, HS.out.draw, ((((HC.out.store (p := ⟨g, (a + j) * 2, none⟩) rfl _).store (p := ⟨g, (a + j) * 2 + 1, none⟩) rfl _).store (p := ⟨g, (b + j) * 2, none⟩) rfl _).store (p := ⟨g, (b + j) * 2 + 1, none⟩) rfl _).drewN 1⟩, by simp [intOf]; omega⟩
    · obtain rfl : j = k := by omega
      have HS := Lib.hid (And.intro hS hC)
      clear hS hC
      go_wp2_with fail
      go_end0
      exact ⟨rfl, HS.out⟩
set_option maxRecDepth 100000 in
set_option maxHeartbeats 1000000 in
theorem rotate_any (g n c : Nat) (d : Nat → Int × Int) (a m b : Nat) (F : Value) (w : World) (h : SpF w g n d) (h1 : a < m) (h2 : m < b) (h3 : b ≤ n) (hn : n ≤ 1000000) :
    Calls Try.prog 128 #[.slice (some ⟨g, 0, none⟩) n c, .int .i64 a, .int .i64 m, .int .i64 b, F] w fun e' w' => e' = .returned (.tuple #[]) ∧ SpF w' g n (Stb.rot d a m b) ∧ Only g w w' := by
  have SW := Lib.hid (fun V d' (hV : SpF V g n d') (x y k : Nat) (q1 : x + k ≤ y) (q2 : y + k ≤ n) => swapRange_any g n c d' x y k F V hV q1 q2 hn)
  obtain ⟨p, hp⟩ : ∃ p, m = a + p := ⟨m - a, by omega⟩
  obtain ⟨q, hq⟩ : ∃ q, b = m + q := ⟨b - m, by omega⟩
  have w0 : IntKind.i64.wrap ((m : Int) - a) = (p : Int) := by rw [IntWalk.i64_in _ (by omega)]; omega
  have w1 : IntKind.i64.wrap ((b : Int) - m) = (q : Int) := by rw [IntWalk.i64_in _ (by omega)]; omega
  have R0 : Hid (0 < p ∧ 0 < q ∧ a + p ≤ m ∧ m + q ≤ b ∧ Hid (Stb.rot d (m - p) m (m + q) = Stb.rot d a m b)) := ⟨by omega, by omega, by omega, by omega, by rw [Hid, show m - p = a by omega, hq]⟩
  have HB : Hid (b ≤ n ∧ n ≤ 1000000 ∧ a < m ∧ m < b) := ⟨h3, hn, h1, h2⟩
  clear hp hq h1 h2 h3 hn
  go_enter Try.func128, Try.ntmps128
  go_wp2_with fail
  go_loopw [10, 11] (fun iv jv wr => ∃ (i j : Nat) (d' : Nat → Int × Int), iv = .int .i64 i ∧ jv = .int .i64 j ∧ Hid (0 < i ∧ 0 < j ∧ a + i ≤ m ∧ m + j ≤ b ∧ Hid (Stb.rot d' (m - i) m (m + j) = Stb.rot d a m b)) ∧ SpF wr g n d' ∧ Only g w wr) (fun iv jv _ => (intOf iv).toNat + (intOf jv).toNat)
  case atStart => exact ⟨p, q, d, rfl, rfl, R0, h, Chg.refl _ _⟩
  case round =>
    obtain ⟨i, j, d', rfl, rfl, HR, hS, hC⟩ := hrel
    clear h w0 w1 R0
    obtain ⟨i0, j0, hi, hj, hr⟩ := HR.out
    obtain ⟨b1, b2, b3, b4⟩ := HB.out
    obtain ⟨lo, hlo⟩ : ∃ lo, m = lo + i := ⟨m - i, by omega⟩
    have wi : IntKind.i64.wrap ((m : Int) - i) = (lo : Int) := by rw [IntWalk.i64_in _ (by omega)]; omega
    have elo : m - i = lo := by omega
    rw [elo] at hr
    rcases Nat.lt_trichotomy i j with hl | hl | hl
    · have t1 : ((i : Int) == j) = false := by simp; omega
      have t2 : ¬ ((j : Int) < i) := by omega
      obtain ⟨l, hl2⟩ : ∃ l, j = i + l := ⟨j - i, by omega⟩
      obtain ⟨y, hy⟩ : ∃ y, y = m + l := ⟨_, rfl⟩
      have wk : IntKind.i64.wrap ((m : Int) + j) = ((m : Int) + j) := by rw [IntWalk.i64_in _ (by omega)]
      have wk2 : IntKind.i64.wrap ((m : Int) + j - i) = (y : Int) := by rw [IntWalk.i64_in _ (by omega)]; omega
      have wl : IntKind.i64.wrap ((j : Int) - i) = (l : Int) := by rw [IntWalk.i64_in _ (by omega)]; omega
      have S1 := Lib.hid (SW.out wr d' hS lo y i (by omega) (by omega))
      have HC := Lib.hid hC
      have RN : Hid (0 < i ∧ 0 < l ∧ a + i ≤ m ∧ m + l ≤ b ∧ Hid (Stb.rot (Stb.swr d' lo y i) (m - i) m (m + l) = Stb.rot d a m b)) := by
        refine ⟨i0, by omega, hi, by omega, ?_⟩
        have := Stb.rot_right d' m i j (by omega) i0 hl
        rw [elo, show m + j - i = y by omega, show j - i = l by omega, hr] at this
        rw [Hid, elo]
        exact this
      have DD : Hid (i + l < i + j) := by rw [Hid]; omega
      clear hS hC SW hlo elo hr hl2 hy hi hj b1 b2 b3 b4 HR hl i0 j0
      go_wp2_with (go_at_call 134; refine S1.out.mono ?_; rintro e' w2 ⟨rfl, hS2, hC2⟩)
      exact ⟨⟨i, l, _, by go_num, by go_num, RN, hS2, HC.out.trans hC2⟩, by have := DD.out; simp [intOf]; omega⟩
    · have t1 : ((i : Int) == j) = true := by simp; omega
      have S1 := Lib.hid (SW.out wr d' hS lo m i (by omega) (by omega))
      have HC := Lib.hid hC
      have RN : Hid (Stb.swr d' lo m i = Stb.rot d a m b) := by
        have := Stb.rot_end d' m i (by omega)
        rw [elo] at this
        rw [Hid, this, ← hr, hl]
      clear hS hC SW hlo elo hr hi hj b1 b2 b3 b4 HR hl i0 j0
      go_wp2_with (go_at_call 134; refine S1.out.mono ?_; rintro e' w2 ⟨rfl, hS2, hC2⟩)
      go_end0
      exact ⟨rfl, by rw [← RN.out]; exact hS2, HC.out.trans hC2⟩
    · have t1 : ((i : Int) == j) = false := by simp; omega
      have t2 : (j : Int) < i := by omega
      obtain ⟨l, hl2⟩ : ∃ l, i = j + l := ⟨i - j, by omega⟩
      have wl : IntKind.i64.wrap ((i : Int) - j) = (l : Int) := by rw [IntWalk.i64_in _ (by omega)]; omega
      have S1 := Lib.hid (SW.out wr d' hS lo m j (by omega) (by omega))
      have HC := Lib.hid hC
      have RN : Hid (0 < l ∧ 0 < j ∧ a + l ≤ m ∧ m + j ≤ b ∧ Hid (Stb.rot (Stb.swr d' lo m j) (m - l) m (m + j) = Stb.rot d a m b)) := by
        refine ⟨by omega, j0, by omega, hj, ?_⟩
        have := Stb.rot_left d' m i j (by omega) j0 hl
        rw [elo, show i - j = l by omega, hr] at this
        exact this
      have DD : Hid (l + j < i + j) := by rw [Hid]; omega
      clear hS hC SW hlo elo hr hl2 hi hj b1 b2 b3 b4 HR hl i0 j0
      go_wp2_with (go_at_call 134; refine S1.out.mono ?_; rintro e' w2 ⟨rfl, hS2, hC2⟩)
      exact ⟨⟨l, j, _, by go_num, by go_num, RN, hS2, HC.out.trans hC2⟩, by have := DD.out; simp [intOf]; omega⟩
end Go.Proofs.Ytkamkjbllmgifaa
