/- A drawn square: some picture with so many columns as rows. -/
import Derived.Test.YtdbelajgndclfaaDraw
namespace Go.Proofs.Ytdbelajgndclfaa
open Go.RowKit

set_option maxRecDepth 100000 in
set_option maxHeartbeats 4000000 in
theorem drawSq_any (B s : Nat) (A : Option Addr) (n c i : Nat) (l : List Int) (S : Nat) (w : World) (h : Src B w s A n c l i) (hn : n ≤ maxLen) (hi : i ≤ 100) (hS0 : 0 < S) (hS : S ≤ 16) :
    Calls Try.prog 117 #[.pointer (some ⟨s, 0, none⟩), .int .i64 S] w fun e w' => ∃ A c L, e = .returned (.agg #[.slice A S c]) ∧ L.length = S * S ∧
      w'.ownsRow w.heap.size 9 1 (.slice A S c) S (strs (rowsTo L S S)) ∧ Chg (fun b => b = s ∨ w.heap.size ≤ b) w w' := by
  obtain ⟨i0, hi', hz0, hz1, hz2⟩ := info_parts boolInfo
  have hb : S * S ≤ 256 := Nat.le_trans (Nat.mul_le_mul hS hS) (by decide)
  have hc : (S : Int) * S = ((S * S : Nat) : Int) := by simp
  have hmk : ∀ V : World, (Instr.makeSlice 95 (.int .i64 ((S : Int) * S)) (.int .i64 ((S : Int) * S))).run Try.prog V = .ok (.slice (some ⟨V.heap.size, 0, none⟩) (S * S) (S * S)) (V.alloc (.cells (boolC (List.replicate (S * S) false)) 4)) := by
    intro V
    have h := run_make (P := Try.prog) V 95 4 i0 _ Try.underlying95 hi' hz0 .i64 .i64 ((S : Int) * S) ((S : Int) * S) (by omega) (Int.le_refl _) (by rw [hz2]; omega) (by omega)
    rw [h, hz1, hc, Int.toNat_natCast]
    show Result.ok _ (V.alloc (.cells (madeCells #[.bool false] (S * S * 1)) _)) = _
    rw [Nat.mul_one, boolC_made]
  have hm1 : (S : Int) * S ≤ 256 := by omega
  have hm0 : (0 : Int) ≤ (S : Int) * S := by omega
  have D0 : DrawInv B w s A n c l w.heap.size (w.heap.size + 1) (S * S) i ((w.alloc (.cells #[.slice none 0 0] 26)).alloc (.cells (boolC (List.replicate (S * S) false)) 4)) := by
    refine ⟨⟨i, Nat.le_refl _, h.ext (Ext.more (Ext.more (Ext.refl _) _) _)⟩, (Blk.made _ _ _).more _, ⟨List.replicate (S * S) false, List.length_replicate, ?_⟩, ?_, by omega, Nat.le_refl _, h.at_.le⟩
    · have := Blk.made (w.alloc (.cells #[.slice none 0 0] 26)) 4 (boolC (List.replicate (S * S) false))
      simpa using this
    · exact (Chg.of_below (Ext.more (Ext.more (Ext.refl w) (.cells #[.slice none 0 0] 26)) (.cells (boolC (List.replicate (S * S) false)) 4))).mono (fun k hk => .inr hk)
  have PB : Hid (∀ x y : Nat, x < S → y < S → y * S + x < S * S) := by
    intro x y hx hy
    have : (y + 1) * S ≤ S * S := Nat.mul_le_mul_right _ (by omega)
    rw [Nat.succ_mul] at this
    omega
  have MK := Lib.hid (fun (g : Nat) (L : List Bool) (V : World) (hL : L.length = S * S) (hB : Blk V g 4 (boolC L)) => make_any (some ⟨g, 0, none⟩) (S * S) S S L V (fun _ => ⟨g, rfl, hB.lt, fun i hi => by
    have hi2 : i < L.length := by simpa [bools] using hi
    rw [hB.cell i, boolC_get L i hi2]; simp [bools]⟩) hS0 (by omega) (by omega) hL)
  clear hc hi' hz0 hz1 hz2 h
  go_enter Try.func117, Try.ntmps117
  go_wp2_with fail
  refine (D0.pick hn (by omega) 5 (by decide) (by decide)).mono ?_
  rintro e w1 ⟨k5, hk5, rfl, D5⟩
  clear D0 hmk
  go_wp2_with fail
  go_loopw [6] (fun v wr => ∃ q : Nat, q ≤ 4 ∧ v = .int .i64 q ∧ DrawInv B w s A n c l w.heap.size (w.heap.size + 1) (S * S) (101 + 5 * (4 - q)) wr) (fun v _ => (intOf v).toNat)
  case atStart => exact ⟨k5, by omega, rfl, D5.le (by omega)⟩
  case round =>
    obtain ⟨q, hq, rfl, D⟩ := hrel
    clear D5
    by_cases hz : q = 0
    · subst hz
      obtain ⟨L, hL, hB⟩ := D.list
      have M := Lib.hid (MK.out _ _ _ hL hB)
      have HD := Lib.hid D
      have HLL := Lib.hid hL
      clear D hB hL
      go_wp2_with fail
      refine M.out.mono ?_
      rintro e w6 ⟨A6, c6, rfl, own6, hb6⟩
      have hR := HD.out.res.under hb6 HD.out.res.lt
      have f0 := hR.free 0
      have c0 := hR.cell 0
      have cs := (hR.store 0 (.slice A6 S c6)).cell 0
      simp at c0 cs
      have hgr := HD.out.chg.size
      have hRlt := HD.out.res.lt
      go_wp2_with fail
      refine bodyPost_ret (v := .agg #[.slice A6 S c6]) (by simp [results, Try.results117, go_sem, cs]) rfl ⟨A6, c6, L, rfl, HLL.out, ?_, ?_⟩
      · exact own_base (ownsRow_setCell_below own6 (a := ⟨w.heap.size, 0, none⟩) (by show w.heap.size < wr.heap.size; omega) _) hgr
      · exact (HD.out.chg.ext hb6).store (p := ⟨w.heap.size, 0, none⟩) (.inr (Nat.le_refl _)) _
    · have t0 : (0 : Int) < (q : Int) := by omega
      go_wp2_with fail
      refine (D.pick hn (by omega) 4 (by decide) (by decide)).mono ?_
      rintro e w2 ⟨k4, hk4, rfl, D2⟩
      clear D
      have h4 : k4 = 0 ∨ k4 = 1 ∨ k4 = 2 ∨ k4 = 3 := by omega
      obtain ⟨sz, hsz, hsz1, hsz8⟩ : ∃ sz : Nat, sz = 2 ^ k4 ∧ 1 ≤ sz ∧ sz ≤ 8 := ⟨_, rfl, by rcases h4 with e | e | e | e <;> subst e <;> decide, by rcases h4 with e | e | e | e <;> subst e <;> decide⟩
      have hsw : wrap64 (2 ^ k4) = (sz : Int) := by rcases h4 with e | e | e | e <;> subst e <;> subst hsz <;> decide +kernel
      clear hsz h4
      by_cases hgt : (S : Int) < (sz : Int)
      · have hsz0 : 1 ≤ sz := hsz1
        go_wp2_with fail
        refine (D2.pick hn (by omega) S (by omega) (by omega)).mono ?_
        rintro e w3 ⟨x, hx, rfl, D3⟩
        clear D2
        go_wp2_with fail
        refine (D3.pick hn (by omega) S (by omega) (by omega)).mono ?_
        rintro e w4 ⟨y, hy, rfl, D4⟩
        clear D3
        go_wp2_with fail
        refine (D4.one hn (by omega) 3 (by decide) (by decide)).mono ?_
        rintro e w5 ⟨bl, rfl, D5⟩
        clear D4
        go_wp2_with fail
        refine (D5.one hn (by omega) 2 (by decide) (by decide)).mono ?_
        rintro e w6 ⟨b2, rfl, D6⟩
        clear D5
        cases b2
        · have D7 := D6.le (show 101 + 5 * (4 - q) + 1 + 1 + 1 + 1 + 1 ≤ 101 + 5 * (4 - q) + 5 by omega)
          obtain ⟨x', ex⟩ : ∃ x', x = x' := ⟨_, rfl⟩
          obtain ⟨y', ey⟩ : ∃ y', y = y' := ⟨_, rfl⟩
          subst ex ey
          clear D6
          go_wp2_with fail
          go_loopw [11] (fun v wr => ∃ j : Nat, j ≤ S ∧ v = .int .i64 j ∧ DrawInv B w s A n c l w.heap.size (w.heap.size + 1) (S * S) (101 + 5 * (4 - q) + 5) wr) (fun v _ => S - (intOf v).toNat)
          case atStart => exact ⟨y, by omega, rfl, D7⟩
          case round =>
            obtain ⟨j, hj, rfl, D⟩ := hrel
            clear D7
            by_cases hjl : j < y + S ∧ j < S
            · obtain ⟨j1, j2⟩ := hjl
              go_wp2_with fail
              go_loopw [12] (fun v wr => ∃ i : Nat, i ≤ S ∧ v = .int .i64 i ∧ DrawInv B w s A n c l w.heap.size (w.heap.size + 1) (S * S) (101 + 5 * (4 - q) + 5) wr) (fun v _ => S - (intOf v).toNat)
              case atStart => exact ⟨x, by omega, rfl, D⟩
              case round =>
                obtain ⟨i, hi, rfl, D⟩ := hrel
                by_cases hil : i < x + S ∧ i < S
                · obtain ⟨l1, l2⟩ := hil
                  have pb := PB.out i j l2 j2
                  obtain ⟨⟨u, cu⟩, fu⟩ := D.cells pb
                  have D3 := Lib.hid (D.put (j * S + i) (!bl))
                  have mb0 : (0 : Int) ≤ (j : Int) * (S : Int) := Int.mul_nonneg (by omega) (by omega)
                  have e2 : (j : Int) * (S : Int) = ((j * S : Nat) : Int) := by simp
                  have mb : (j : Int) * (S : Int) + (i : Int) < ((S * S : Nat) : Int) := by rw [e2]; omega
                  have mt : ((j : Int) * (S : Int) + (i : Int)).toNat = j * S + i := by rw [e2]; omega
                  have mb2 : (j : Int) * (S : Int) ≤ 256 := by omega
                  clear D e2
                  go_wp2_with fail
                  go_roundw
                  case rel => exact ⟨i + 1, by omega, by go_num, D3.out⟩
                  case measure => simp [intOf]; omega
                · by_cases l1 : i < x + S
                  · have l2 : ¬ i < S := fun h => hil ⟨l1, h⟩
                    go_wp2_with fail
                    go_roundw
                    case rel => exact ⟨j + 1, by omega, by go_num, D⟩
                    case measure => simp [intOf]; omega
                  · go_wp2_with fail
                    go_roundw
                    case rel => exact ⟨j + 1, by omega, by go_num, D⟩
                    case measure => simp [intOf]; omega
            · have DL := D.le (show 101 + 5 * (4 - q) + 5 ≤ 101 + 5 * (4 - (q - 1)) by omega)
              clear D
              by_cases j1 : j < y + S
              · have j2 : ¬ j < S := fun h => hjl ⟨j1, h⟩
                go_wp2_with fail
                go_roundw
                case rel => exact ⟨q - 1, by omega, by simp; omega, DL⟩
                case measure => simp [intOf]; omega
              · go_wp2_with fail
                go_roundw
                case rel => exact ⟨q - 1, by omega, by simp; omega, DL⟩
                case measure => simp [intOf]; omega
        · have D7 := D6.le (show 101 + 5 * (4 - q) + 1 + 1 + 1 + 1 + 1 ≤ 101 + 5 * (4 - q) + 5 by omega)
          have zx : (x : Int) % (S : Int) = ((x % S : Nat) : Int) := by rw [Int.natCast_emod]
          have zx2 : (x : Int).tmod (S : Int) = ((x % S : Nat) : Int) := by rw [Int.tmod_eq_emod_of_nonneg (by omega), zx]
          have zy : (y : Int) % (S : Int) = ((y % S : Nat) : Int) := by rw [Int.natCast_emod]
          have zy2 : (y : Int).tmod (S : Int) = ((y % S : Nat) : Int) := by rw [Int.tmod_eq_emod_of_nonneg (by omega), zy]
          have zn : (S : Int) ≠ 0 := by omega
          have lx := Nat.mod_le x S
          have ly := Nat.mod_le y S
          generalize x % S = xm at *
          generalize y % S = ym at *
          obtain ⟨x', ex⟩ : ∃ x' : Nat, (x : Int) - (xm : Int) = x' := ⟨x - xm, by omega⟩
          obtain ⟨y', ey⟩ : ∃ y' : Nat, (y : Int) - (ym : Int) = y' := ⟨y - ym, by omega⟩
          have hx' : x' ≤ S := by omega
          have hy' : y' ≤ S := by omega
          clear D6
          go_wp2_with fail
          go_loopw [11] (fun v wr => ∃ j : Nat, j ≤ S ∧ v = .int .i64 j ∧ DrawInv B w s A n c l w.heap.size (w.heap.size + 1) (S * S) (101 + 5 * (4 - q) + 5) wr) (fun v _ => S - (intOf v).toNat)
          case atStart => exact ⟨y', by omega, rfl, D7⟩
          case round =>
            obtain ⟨j, hj, rfl, D⟩ := hrel
            clear D7
            by_cases hjl : j < y' + S ∧ j < S
            · obtain ⟨j1, j2⟩ := hjl
              go_wp2_with fail
              go_loopw [12] (fun v wr => ∃ i : Nat, i ≤ S ∧ v = .int .i64 i ∧ DrawInv B w s A n c l w.heap.size (w.heap.size + 1) (S * S) (101 + 5 * (4 - q) + 5) wr) (fun v _ => S - (intOf v).toNat)
              case atStart => exact ⟨x', by omega, rfl, D⟩
              case round =>
                obtain ⟨i, hi, rfl, D⟩ := hrel
                by_cases hil : i < x' + S ∧ i < S
                · obtain ⟨l1, l2⟩ := hil
                  have pb := PB.out i j l2 j2
                  obtain ⟨⟨u, cu⟩, fu⟩ := D.cells pb
                  have D3 := Lib.hid (D.put (j * S + i) (!bl))
                  have mb0 : (0 : Int) ≤ (j : Int) * (S : Int) := Int.mul_nonneg (by omega) (by omega)
                  have e2 : (j : Int) * (S : Int) = ((j * S : Nat) : Int) := by simp
                  have mb : (j : Int) * (S : Int) + (i : Int) < ((S * S : Nat) : Int) := by rw [e2]; omega
                  have mt : ((j : Int) * (S : Int) + (i : Int)).toNat = j * S + i := by rw [e2]; omega
                  have mb2 : (j : Int) * (S : Int) ≤ 256 := by omega
                  clear D e2
                  go_wp2_with fail
                  go_roundw
                  case rel => exact ⟨i + 1, by omega, by go_num, D3.out⟩
                  case measure => simp [intOf]; omega
                · by_cases l1 : i < x' + S
                  · have l2 : ¬ i < S := fun h => hil ⟨l1, h⟩
                    go_wp2_with fail
                    go_roundw
                    case rel => exact ⟨j + 1, by omega, by go_num, D⟩
                    case measure => simp [intOf]; omega
                  · go_wp2_with fail
                    go_roundw
                    case rel => exact ⟨j + 1, by omega, by go_num, D⟩
                    case measure => simp [intOf]; omega
            · have DL := D.le (show 101 + 5 * (4 - q) + 5 ≤ 101 + 5 * (4 - (q - 1)) by omega)
              clear D
              by_cases j1 : j < y' + S
              · have j2 : ¬ j < S := fun h => hjl ⟨j1, h⟩
                go_wp2_with fail
                go_roundw
                case rel => exact ⟨q - 1, by omega, by simp; omega, DL⟩
                case measure => simp [intOf]; omega
              · go_wp2_with fail
                go_roundw
                case rel => exact ⟨q - 1, by omega, by simp; omega, DL⟩
                case measure => simp [intOf]; omega
      · have hsz0 : 1 ≤ sz := hsz1
        go_wp2_with fail
        refine (D2.pick hn (by omega) S (by omega) (by omega)).mono ?_
        rintro e w3 ⟨x, hx, rfl, D3⟩
        clear D2
        go_wp2_with fail
        refine (D3.pick hn (by omega) S (by omega) (by omega)).mono ?_
        rintro e w4 ⟨y, hy, rfl, D4⟩
        clear D3
        go_wp2_with fail
        refine (D4.one hn (by omega) 3 (by decide) (by decide)).mono ?_
        rintro e w5 ⟨bl, rfl, D5⟩
        clear D4
        go_wp2_with fail
        refine (D5.one hn (by omega) 2 (by decide) (by decide)).mono ?_
        rintro e w6 ⟨b2, rfl, D6⟩
        clear D5
        cases b2
        · have D7 := D6.le (show 101 + 5 * (4 - q) + 1 + 1 + 1 + 1 + 1 ≤ 101 + 5 * (4 - q) + 5 by omega)
          obtain ⟨x', ex⟩ : ∃ x', x = x' := ⟨_, rfl⟩
          obtain ⟨y', ey⟩ : ∃ y', y = y' := ⟨_, rfl⟩
          subst ex ey
          clear D6
          go_wp2_with fail
          go_loopw [11] (fun v wr => ∃ j : Nat, j ≤ S ∧ v = .int .i64 j ∧ DrawInv B w s A n c l w.heap.size (w.heap.size + 1) (S * S) (101 + 5 * (4 - q) + 5) wr) (fun v _ => S - (intOf v).toNat)
          case atStart => exact ⟨y, by omega, rfl, D7⟩
          case round =>
            obtain ⟨j, hj, rfl, D⟩ := hrel
            clear D7
            by_cases hjl : j < y + sz ∧ j < S
            · obtain ⟨j1, j2⟩ := hjl
              go_wp2_with fail
              go_loopw [12] (fun v wr => ∃ i : Nat, i ≤ S ∧ v = .int .i64 i ∧ DrawInv B w s A n c l w.heap.size (w.heap.size + 1) (S * S) (101 + 5 * (4 - q) + 5) wr) (fun v _ => S - (intOf v).toNat)
              case atStart => exact ⟨x, by omega, rfl, D⟩
              case round =>
                obtain ⟨i, hi, rfl, D⟩ := hrel
                by_cases hil : i < x + sz ∧ i < S
                · obtain ⟨l1, l2⟩ := hil
                  have pb := PB.out i j l2 j2
                  obtain ⟨⟨u, cu⟩, fu⟩ := D.cells pb
                  have D3 := Lib.hid (D.put (j * S + i) (!bl))
                  have mb0 : (0 : Int) ≤ (j : Int) * (S : Int) := Int.mul_nonneg (by omega) (by omega)
                  have e2 : (j : Int) * (S : Int) = ((j * S : Nat) : Int) := by simp
                  have mb : (j : Int) * (S : Int) + (i : Int) < ((S * S : Nat) : Int) := by rw [e2]; omega
                  have mt : ((j : Int) * (S : Int) + (i : Int)).toNat = j * S + i := by rw [e2]; omega
                  have mb2 : (j : Int) * (S : Int) ≤ 256 := by omega
                  clear D e2
                  go_wp2_with fail
                  go_roundw
                  case rel => exact ⟨i + 1, by omega, by go_num, D3.out⟩
                  case measure => simp [intOf]; omega
                · by_cases l1 : i < x + sz
                  · have l2 : ¬ i < S := fun h => hil ⟨l1, h⟩
                    go_wp2_with fail
                    go_roundw
                    case rel => exact ⟨j + 1, by omega, by go_num, D⟩
                    case measure => simp [intOf]; omega
                  · go_wp2_with fail
                    go_roundw
                    case rel => exact ⟨j + 1, by omega, by go_num, D⟩
                    case measure => simp [intOf]; omega
            · have DL := D.le (show 101 + 5 * (4 - q) + 5 ≤ 101 + 5 * (4 - (q - 1)) by omega)
              clear D
              by_cases j1 : j < y + sz
              · have j2 : ¬ j < S := fun h => hjl ⟨j1, h⟩
                go_wp2_with fail
                go_roundw
                case rel => exact ⟨q - 1, by omega, by simp; omega, DL⟩
                case measure => simp [intOf]; omega
              · go_wp2_with fail
                go_roundw
                case rel => exact ⟨q - 1, by omega, by simp; omega, DL⟩
                case measure => simp [intOf]; omega
        · have D7 := D6.le (show 101 + 5 * (4 - q) + 1 + 1 + 1 + 1 + 1 ≤ 101 + 5 * (4 - q) + 5 by omega)
          have zx : (x : Int) % (sz : Int) = ((x % sz : Nat) : Int) := by rw [Int.natCast_emod]
          have zx2 : (x : Int).tmod (sz : Int) = ((x % sz : Nat) : Int) := by rw [Int.tmod_eq_emod_of_nonneg (by omega), zx]
          have zy : (y : Int) % (sz : Int) = ((y % sz : Nat) : Int) := by rw [Int.natCast_emod]
          have zy2 : (y : Int).tmod (sz : Int) = ((y % sz : Nat) : Int) := by rw [Int.tmod_eq_emod_of_nonneg (by omega), zy]
          have zn : (sz : Int) ≠ 0 := by omega
          have lx := Nat.mod_le x sz
          have ly := Nat.mod_le y sz
          generalize x % sz = xm at *
          generalize y % sz = ym at *
          obtain ⟨x', ex⟩ : ∃ x' : Nat, (x : Int) - (xm : Int) = x' := ⟨x - xm, by omega⟩
          obtain ⟨y', ey⟩ : ∃ y' : Nat, (y : Int) - (ym : Int) = y' := ⟨y - ym, by omega⟩
          have hx' : x' ≤ S := by omega
          have hy' : y' ≤ S := by omega
          clear D6
          go_wp2_with fail
          go_loopw [11] (fun v wr => ∃ j : Nat, j ≤ S ∧ v = .int .i64 j ∧ DrawInv B w s A n c l w.heap.size (w.heap.size + 1) (S * S) (101 + 5 * (4 - q) + 5) wr) (fun v _ => S - (intOf v).toNat)
          case atStart => exact ⟨y', by omega, rfl, D7⟩
          case round =>
            obtain ⟨j, hj, rfl, D⟩ := hrel
            clear D7
            by_cases hjl : j < y' + sz ∧ j < S
            · obtain ⟨j1, j2⟩ := hjl
              go_wp2_with fail
              go_loopw [12] (fun v wr => ∃ i : Nat, i ≤ S ∧ v = .int .i64 i ∧ DrawInv B w s A n c l w.heap.size (w.heap.size + 1) (S * S) (101 + 5 * (4 - q) + 5) wr) (fun v _ => S - (intOf v).toNat)
              case atStart => exact ⟨x', by omega, rfl, D⟩
              case round =>
                obtain ⟨i, hi, rfl, D⟩ := hrel
                by_cases hil : i < x' + sz ∧ i < S
                · obtain ⟨l1, l2⟩ := hil
                  have pb := PB.out i j l2 j2
                  obtain ⟨⟨u, cu⟩, fu⟩ := D.cells pb
                  have D3 := Lib.hid (D.put (j * S + i) (!bl))
                  have mb0 : (0 : Int) ≤ (j : Int) * (S : Int) := Int.mul_nonneg (by omega) (by omega)
                  have e2 : (j : Int) * (S : Int) = ((j * S : Nat) : Int) := by simp
                  have mb : (j : Int) * (S : Int) + (i : Int) < ((S * S : Nat) : Int) := by rw [e2]; omega
                  have mt : ((j : Int) * (S : Int) + (i : Int)).toNat = j * S + i := by rw [e2]; omega
                  have mb2 : (j : Int) * (S : Int) ≤ 256 := by omega
                  clear D e2
                  go_wp2_with fail
                  go_roundw
                  case rel => exact ⟨i + 1, by omega, by go_num, D3.out⟩
                  case measure => simp [intOf]; omega
                · by_cases l1 : i < x' + sz
                  · have l2 : ¬ i < S := fun h => hil ⟨l1, h⟩
                    go_wp2_with fail
                    go_roundw
                    case rel => exact ⟨j + 1, by omega, by go_num, D⟩
                    case measure => simp [intOf]; omega
                  · go_wp2_with fail
                    go_roundw
                    case rel => exact ⟨j + 1, by omega, by go_num, D⟩
                    case measure => simp [intOf]; omega
            · have DL := D.le (show 101 + 5 * (4 - q) + 5 ≤ 101 + 5 * (4 - (q - 1)) by omega)
              clear D
              by_cases j1 : j < y' + sz
              · have j2 : ¬ j < S := fun h => hjl ⟨j1, h⟩
                go_wp2_with fail
                go_roundw
                case rel => exact ⟨q - 1, by omega, by simp; omega, DL⟩
                case measure => simp [intOf]; omega
              · go_wp2_with fail
                go_roundw
                case rel => exact ⟨q - 1, by omega, by simp; omega, DL⟩
                case measure => simp [intOf]; omega
end Go.Proofs.Ytdbelajgndclfaa
