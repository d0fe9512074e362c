/- A drawn picture: some picture with so many columns and rows. -/
import Derived.Test.YtogefmkplkddoaaDoorSrc
import Derived.Test.YtogefmkplkddoaaDoorSMake
import Derived.Test.YtogefmkplkddoaaDoorPicL
namespace Go.Proofs.YtogefmkplkddoaaDoor
open Go.RowKit

/-- What is kept while a picture is drawn. -/
structure DrawInv (B : Nat) (w : World) (s : Nat) (A : Option Addr) (n c : Nat) (l : List Int) (R g N i : Nat) (wr : World) : Prop where
  src : ∃ j, j ≤ i ∧ Src B wr s A n c l j
  res : Blk wr R 36 #[.slice none 0 0]
  list : ∃ L, L.length = N ∧ Blk wr g 4 (boolC L)
  chg : Chg (fun b => b = s ∨ w.heap.size ≤ b) w wr
  hg : w.heap.size ≤ g
  hR : w.heap.size ≤ R
  hs : s < w.heap.size
section
variable {B : Nat} {w : World} {s : Nat} {A : Option Addr} {n c : Nat} {l : List Int} {R g N i : Nat} {wr : World}
theorem DrawInv.turn (h : DrawInv B w s A n c l R g N i wr) {w' : World} {j i' : Nat} (hs : Src B w' s A n c l j) (hj : j ≤ i') (ho : One s wr w') : DrawInv B w s A n c l R g N i' w' := by
  obtain ⟨L, hL, hB⟩ := h.list
  refine ⟨⟨j, hj, hs⟩, ho.blk h.res (fun e => by have := h.hR; have := h.hs; omega), ⟨L, hL, ho.blk hB (fun e => by have := h.hg; have := h.hs; omega)⟩, h.chg.trans (ho.mono (fun k hk => .inl hk)), h.hg, h.hR, h.hs⟩
theorem DrawInv.put (h : DrawInv B w s A n c l R g N i wr) (k : Nat) (b : Bool) : DrawInv B w s A n c l R g N i (wr.setCell ⟨g, k, none⟩ (.bool b)) := by
  obtain ⟨L, hL, hB⟩ := h.list
  obtain ⟨j, hj, hs⟩ := h.src
  have hgs := h.hg
  have hss := h.hs
  refine ⟨⟨j, hj, hs.other (p := ⟨g, k, none⟩) (by have := hs.high; show B ≤ g; omega) (by show s ≠ g; omega) _⟩, h.res.apart (p := ⟨g, k, none⟩) (h.res.ne hB (by decide)) _, ⟨L.set k b, by simp [hL], ?_⟩, h.chg.store (p := ⟨g, k, none⟩) (.inr hgs) _, hgs, h.hR, hss⟩
  have := hB.store k (.bool b)
  rwa [boolC_set] at this
theorem DrawInv.cells (h : DrawInv B w s A n c l R g N i wr) {k : Nat} (hk : k < N) : (∃ u, wr.cell? ⟨g, k, none⟩ = some u) ∧ wr.frozen? ⟨g, k, none⟩ = false := by
  obtain ⟨L, hL, hB⟩ := h.list
  exact ⟨⟨_, (hB.cell k).trans (boolC_get L k (by omega))⟩, hB.free k⟩
theorem DrawInv.le (h : DrawInv B w s A n c l R g N i wr) {i' : Nat} (hi : i ≤ i') : DrawInv B w s A n c l R g N i' wr := by
  obtain ⟨j, hj, hs⟩ := h.src
  exact ⟨⟨j, by omega, hs⟩, h.res, h.list, h.chg, h.hg, h.hR, h.hs⟩
/-- A pick, in the midst. -/
theorem DrawInv.pick (h : DrawInv B w s A n c l R g N i wr) (hn : n ≤ maxLen) (hi : i ≤ 1000) (m : Int) (hm : 1 ≤ m) (hm2 : m ≤ 200) :
    Calls Tryd.prog 43 #[.pointer (some ⟨s, 0, none⟩), .int .i64 m] wr fun e w' => ∃ k : Nat, (k : Int) < m ∧ e = .returned (.int .i64 k) ∧ DrawInv B w s A n c l R g N (i + 1) w' := by
  obtain ⟨j, hj, hs⟩ := h.src
  refine (pick_any B s A n c j l m hm hm2 wr hs hn (by omega)).mono ?_
  rintro e w' ⟨⟨k, hk, rfl⟩, ⟨j', hj', hs'⟩, ho⟩
  exact ⟨k, hk, rfl, h.turn hs' (by omega) ho⟩
theorem DrawInv.one (h : DrawInv B w s A n c l R g N i wr) (hn : n ≤ maxLen) (hi : i ≤ 1000) (m : Int) (hm : 1 ≤ m) (hm2 : m ≤ 200) :
    Calls Tryd.prog 94 #[.pointer (some ⟨s, 0, none⟩), .int .i64 m] wr fun e w' => ∃ b : Bool, e = .returned (.bool b) ∧ DrawInv B w s A n c l R g N (i + 1) w' := by
  obtain ⟨j, hj, hs⟩ := h.src
  refine (one_any B s A n c j l m hm hm2 wr hs hn (by omega)).mono ?_
  rintro e w' ⟨⟨b, rfl⟩, ⟨j', hj', hs'⟩, ho⟩
  exact ⟨b, rfl, h.turn hs' (by omega) ho⟩
end

theorem inS_ex (a b c : Int) (w : World) : Calls Tryd.prog 80 #[.int .i64 a, .int .i64 b, .int .i64 c] w fun e w' => ∃ t : Bool, e = .returned (.bool t) ∧ w = w' :=
  (inS_any a b c w).mono fun _ _ ⟨h, k⟩ => ⟨_, h, k⟩

set_option maxRecDepth 100000 in
set_option maxHeartbeats 4000000 in
theorem draw_any (B s : Nat) (A : Option Addr) (n c i : Nat) (l : List Int) (W H : Nat) (w : World) (h : Src B w s A n c l i) (hn : n ≤ maxLen) (hi : i ≤ 100) (hW0 : 0 < W) (hW : W ≤ 16) (hH0 : 0 < H) (hH : H ≤ 16) :
    Calls Tryd.prog 57 #[.pointer (some ⟨s, 0, none⟩), .int .i64 W, .int .i64 H] w fun e w' => ∃ A c L, e = .returned (.agg #[.slice A H c]) ∧ L.length = W * H ∧
      w'.ownsRow w.heap.size 9 1 (.slice A H c) H (strs (rowsTo L W H)) ∧ Chg (fun b => b = s ∨ w.heap.size ≤ b) w w' := by
  obtain ⟨i0, hi', hz0, hz1, hz2⟩ := info_parts boolInfo
  have hb : W * H ≤ 256 := Nat.le_trans (Nat.mul_le_mul hW hH) (by decide)
  have hc : (W : Int) * H = ((W * H : Nat) : Int) := by simp
  have hmk : ∀ V : World, (Instr.makeSlice 61 (.int .i64 ((W : Int) * H)) (.int .i64 ((W : Int) * H))).run Tryd.prog V = .ok (.slice (some ⟨V.heap.size, 0, none⟩) (W * H) (W * H)) (V.alloc (.cells (boolC (List.replicate (W * H) false)) 4)) := by
    intro V
    have h := run_make (P := Tryd.prog) V 61 4 i0 _ Tryd.underlying61 hi' hz0 .i64 .i64 ((W : Int) * H) ((W : Int) * H) (by omega) (Int.le_refl _) (by rw [hz2]; omega) (by omega)
    rw [h, hz1, hc, Int.toNat_natCast]
    show Result.ok _ (V.alloc (.cells (madeCells #[.bool false] (W * H * 1)) _)) = _
    rw [Nat.mul_one, boolC_made]
  have hm1 : (W : Int) * H ≤ 256 := by omega
  have hm0 : (0 : Int) ≤ (W : Int) * H := by omega
  have D0 : DrawInv B w s A n c l w.heap.size (w.heap.size + 1) (W * H) i ((w.alloc (.cells #[.slice none 0 0] 36)).alloc (.cells (boolC (List.replicate (W * H) false)) 4)) := by
    refine ⟨⟨i, Nat.le_refl _, h.ext (Ext.more (Ext.more (Ext.refl _) _) _)⟩, (Blk.made _ _ _).more _, ⟨List.replicate (W * H) false, List.length_replicate, ?_⟩, ?_, by omega, Nat.le_refl _, h.at_.le⟩
    · have := Blk.made (w.alloc (.cells #[.slice none 0 0] 36)) 4 (boolC (List.replicate (W * H) false))
      simpa using this
    · exact (Chg.of_below (Ext.more (Ext.more (Ext.refl w) (.cells #[.slice none 0 0] 36)) (.cells (boolC (List.replicate (W * H) false)) 4))).mono (fun k hk => .inr hk)
  clear hc hi' hz0 hz1 hz2 h
  have MK := Lib.hid (fun (g : Nat) (L : List Bool) (V : World) (hL : L.length = W * H) (hB : Blk V g 4 (boolC L)) => make_any (some ⟨g, 0, none⟩) (W * H) W H L V (fun _ => ⟨g, rfl, hB.lt, fun i hi => by
    have hi2 : i < L.length := by simpa [bools] using hi
    rw [hB.cell i, boolC_get L i hi2]; simp [bools]⟩) hW0 (by omega) (by omega) hL)
  go_enter Tryd.func57, Tryd.ntmps57
  go_wp2_with fail
  refine (D0.pick hn (by omega) 5 (by decide) (by decide)).mono ?_
  rintro e w1 ⟨k, hk, rfl, D1⟩
  clear D0 hmk
  have hk' : k = 0 ∨ k = 1 ∨ k = 2 ∨ k = 3 ∨ k = 4 := by omega
  rcases hk' with rfl | rfl | rfl | rfl | rfl
  · go_wp2_with fail
    go_loopw [30] (fun v wr => ∃ k : Nat, k ≤ W * H ∧ v = .int .i64 k ∧ DrawInv B w s A n c l w.heap.size (w.heap.size + 1) (W * H) (i + 1 + k) wr) (fun v _ => W * H - (intOf v).toNat)
    case atStart => exact ⟨0, Nat.zero_le _, rfl, D1⟩
    case round =>
      obtain ⟨k, hk, rfl, D⟩ := hrel
      by_cases hlt : k < W * H
      · have i1 : (k : Int) < ((W * H : Nat) : Int) := by omega
        have i2 : (0 : Int) ≤ (k : Int) := by omega
        go_wp2_with fail
        refine (D.one hn (by omega) 2 (by decide) (by decide)).mono ?_
        rintro e w2 ⟨b, rfl, D2⟩
        obtain ⟨⟨u, cu⟩, fu⟩ := D2.cells hlt
        have D3 := Lib.hid (D2.put k b)
        clear D2
        go_wp2_with fail
        go_roundw
        case rel => exact ⟨k + 1, by omega, by go_num, D3.out⟩
        case measure => simp [intOf]; omega
      · obtain rfl : k = W * H := by omega
        clear D1
        have DT := D.le (show i + 1 + W * H ≤ 400 by omega)
        clear D
        go_wp2_with fail
        refine (DT.pick hn (by omega) 4 (by decide) (by decide)).mono ?_
        rintro e w5 ⟨k5, hk5, rfl, D5⟩
        clear DT
        go_wp2_with fail
        go_loopw [13] (fun v wr => ∃ k : Nat, k ≤ 3 ∧ v = .int .i64 k ∧ DrawInv B w s A n c l w.heap.size (w.heap.size + 1) (W * H) (401 + 5 * (3 - k)) wr) (fun v _ => (intOf v).toNat)
        case atStart => exact ⟨k5, by omega, rfl, D5.le (by omega)⟩
        case round =>
          obtain ⟨q, hq, rfl, D⟩ := hrel
          clear D5
          by_cases hz : q = 0
          · subst hz
            obtain ⟨L, hL, hB⟩ := D.list
            have M := Lib.hid (MK.out _ _ _ hL hB)
            have HD := Lib.hid D
            have HLL := Lib.hid hL
            clear D hB hL
            go_wp2_with fail
            refine M.out.mono ?_
            rintro e w6 ⟨A6, c6, rfl, own6, hb6⟩
            have hR := HD.out.res.under hb6 HD.out.res.lt
            have f0 := hR.free 0
            have c0 := hR.cell 0
            have cs := (hR.store 0 (.slice A6 H c6)).cell 0
            simp at c0 cs
            have hgr := HD.out.chg.size
            have hRlt := HD.out.res.lt
            go_wp2_with fail
            refine bodyPost_ret (v := .agg #[.slice A6 H c6]) (by simp [results, Tryd.results57, go_sem, cs]) rfl ⟨A6, c6, L, rfl, HLL.out, ?_, ?_⟩
            · exact own_base (ownsRow_setCell_below own6 (a := ⟨w.heap.size, 0, none⟩) (by show w.heap.size < wr.heap.size; omega) _) hgr
            · exact (HD.out.chg.ext hb6).store (p := ⟨w.heap.size, 0, none⟩) (.inr (Nat.le_refl _)) _
          · have t0 : (0 : Int) < (q : Int) := by omega
            go_wp2_with fail
            refine (D.pick hn (by omega) W (by omega) (by omega)).mono ?_
            rintro e w6 ⟨x, hx, rfl, D6⟩
            clear D
            go_wp2_with fail
            refine (D6.pick hn (by omega) H (by omega) (by omega)).mono ?_
            rintro e w7 ⟨y, hy, rfl, D7⟩
            clear D6
            go_wp2_with fail
            refine (D7.pick hn (by omega) ((W : Int) - x) (by omega) (by omega)).mono ?_
            rintro e w8 ⟨wd, hwd, rfl, D8⟩
            clear D7
            go_wp2_with fail
            refine (D8.pick hn (by omega) ((H : Int) - y) (by omega) (by omega)).mono ?_
            rintro e w9 ⟨ht, hht, rfl, D9⟩
            clear D8
            go_wp2_with fail
            refine (D9.one hn (by omega) 3 (by decide) (by decide)).mono ?_
            rintro e w10 ⟨bl, rfl, D10⟩
            clear D9
            go_wp2_with fail
            go_loopw [109] (fun v wr => ∃ k : Nat, k ≤ W * H ∧ v = .int .i64 k ∧ DrawInv B w s A n c l w.heap.size (w.heap.size + 1) (W * H) (401 + 5 * (3 - q) + 5) wr) (fun v _ => W * H - (intOf v).toNat)
            case atStart => exact ⟨0, Nat.zero_le _, rfl, D10⟩
            case round =>
              obtain ⟨k, hk, rfl, D⟩ := hrel
              clear D10
              by_cases hlt : k < W * H
              · have i1 : (k : Int) < ((W * H : Nat) : Int) := by omega
                have i2 : (0 : Int) ≤ (k : Int) := by omega
                have iW : (W : Int) ≠ 0 := by omega
                obtain ⟨⟨u, cu⟩, fu⟩ := D.cells hlt
                have D3 := Lib.hid (D.put k (!bl))
                have D4 := Lib.hid D
                clear D
                go_wp2_with fail
                refine (inS_ex _ _ _ _).mono ?_
                rintro e w11 ⟨b1, rfl, rfl⟩
                cases b1
                · go_wp2_with fail
                  go_roundw
                  case rel => exact ⟨k + 1, by omega, by go_num, D4.out⟩
                  case measure => simp [intOf]; omega
                · go_wp2_with fail
                  refine (inS_ex _ _ _ _).mono ?_
                  rintro e w12 ⟨b2, rfl, rfl⟩
                  cases b2
                  · go_wp2_with fail
                    go_roundw
                    case rel => exact ⟨k + 1, by omega, by go_num, D4.out⟩
                    case measure => simp [intOf]; omega
                  · go_wp2_with fail
                    go_roundw
                    case rel => exact ⟨k + 1, by omega, by go_num, D3.out⟩
                    case measure => simp [intOf]; omega
              · obtain rfl : k = W * H := by omega
                go_wp2_with fail
                go_roundw
                case rel => exact ⟨q - 1, by omega, by simp; omega, D.le (by omega)⟩
                case measure => simp [intOf]; omega
  · go_wp2_with fail
    go_loopw [43] (fun v wr => ∃ k : Nat, k ≤ W * H ∧ v = .int .i64 k ∧ DrawInv B w s A n c l w.heap.size (w.heap.size + 1) (W * H) (i + 1 + k) wr) (fun v _ => W * H - (intOf v).toNat)
    case atStart => exact ⟨0, Nat.zero_le _, rfl, D1⟩
    case round =>
      obtain ⟨k, hk, rfl, D⟩ := hrel
      by_cases hlt : k < W * H
      · have i1 : (k : Int) < ((W * H : Nat) : Int) := by omega
        have i2 : (0 : Int) ≤ (k : Int) := by omega
        go_wp2_with fail
        refine (D.one hn (by omega) 4 (by decide) (by decide)).mono ?_
        rintro e w2 ⟨b, rfl, D2⟩
        obtain ⟨⟨u, cu⟩, fu⟩ := D2.cells hlt
        have D3 := Lib.hid (D2.put k b)
        clear D2
        go_wp2_with fail
        go_roundw
        case rel => exact ⟨k + 1, by omega, by go_num, D3.out⟩
        case measure => simp [intOf]; omega
      · obtain rfl : k = W * H := by omega
        clear D1
        have DT := D.le (show i + 1 + W * H ≤ 400 by omega)
        clear D
        go_wp2_with fail
        refine (DT.pick hn (by omega) 4 (by decide) (by decide)).mono ?_
        rintro e w5 ⟨k5, hk5, rfl, D5⟩
        clear DT
        go_wp2_with fail
        go_loopw [13] (fun v wr => ∃ k : Nat, k ≤ 3 ∧ v = .int .i64 k ∧ DrawInv B w s A n c l w.heap.size (w.heap.size + 1) (W * H) (401 + 5 * (3 - k)) wr) (fun v _ => (intOf v).toNat)
        case atStart => exact ⟨k5, by omega, rfl, D5.le (by omega)⟩
        case round =>
          obtain ⟨q, hq, rfl, D⟩ := hrel
          clear D5
          by_cases hz : q = 0
          · subst hz
            obtain ⟨L, hL, hB⟩ := D.list
            have M := Lib.hid (MK.out _ _ _ hL hB)
            have HD := Lib.hid D
            have HLL := Lib.hid hL
            clear D hB hL
            go_wp2_with fail
            refine M.out.mono ?_
            rintro e w6 ⟨A6, c6, rfl, own6, hb6⟩
            have hR := HD.out.res.under hb6 HD.out.res.lt
            have f0 := hR.free 0
            have c0 := hR.cell 0
            have cs := (hR.store 0 (.slice A6 H c6)).cell 0
            simp at c0 cs
            have hgr := HD.out.chg.size
            have hRlt := HD.out.res.lt
            go_wp2_with fail
            refine bodyPost_ret (v := .agg #[.slice A6 H c6]) (by simp [results, Tryd.results57, go_sem, cs]) rfl ⟨A6, c6, L, rfl, HLL.out, ?_, ?_⟩
            · exact own_base (ownsRow_setCell_below own6 (a := ⟨w.heap.size, 0, none⟩) (by show w.heap.size < wr.heap.size; omega) _) hgr
            · exact (HD.out.chg.ext hb6).store (p := ⟨w.heap.size, 0, none⟩) (.inr (Nat.le_refl _)) _
          · have t0 : (0 : Int) < (q : Int) := by omega
            go_wp2_with fail
            refine (D.pick hn (by omega) W (by omega) (by omega)).mono ?_
            rintro e w6 ⟨x, hx, rfl, D6⟩
            clear D
            go_wp2_with fail
            refine (D6.pick hn (by omega) H (by omega) (by omega)).mono ?_
            rintro e w7 ⟨y, hy, rfl, D7⟩
            clear D6
            go_wp2_with fail
            refine (D7.pick hn (by omega) ((W : Int) - x) (by omega) (by omega)).mono ?_
            rintro e w8 ⟨wd, hwd, rfl, D8⟩
            clear D7
            go_wp2_with fail
            refine (D8.pick hn (by omega) ((H : Int) - y) (by omega) (by omega)).mono ?_
            rintro e w9 ⟨ht, hht, rfl, D9⟩
            clear D8
            go_wp2_with fail
            refine (D9.one hn (by omega) 3 (by decide) (by decide)).mono ?_
            rintro e w10 ⟨bl, rfl, D10⟩
            clear D9
            go_wp2_with fail
            go_loopw [109] (fun v wr => ∃ k : Nat, k ≤ W * H ∧ v = .int .i64 k ∧ DrawInv B w s A n c l w.heap.size (w.heap.size + 1) (W * H) (401 + 5 * (3 - q) + 5) wr) (fun v _ => W * H - (intOf v).toNat)
            case atStart => exact ⟨0, Nat.zero_le _, rfl, D10⟩
            case round =>
              obtain ⟨k, hk, rfl, D⟩ := hrel
              clear D10
              by_cases hlt : k < W * H
              · have i1 : (k : Int) < ((W * H : Nat) : Int) := by omega
                have i2 : (0 : Int) ≤ (k : Int) := by omega
                have iW : (W : Int) ≠ 0 := by omega
                obtain ⟨⟨u, cu⟩, fu⟩ := D.cells hlt
                have D3 := Lib.hid (D.put k (!bl))
                have D4 := Lib.hid D
                clear D
                go_wp2_with fail
                refine (inS_ex _ _ _ _).mono ?_
                rintro e w11 ⟨b1, rfl, rfl⟩
                cases b1
                · go_wp2_with fail
                  go_roundw
                  case rel => exact ⟨k + 1, by omega, by go_num, D4.out⟩
                  case measure => simp [intOf]; omega
                · go_wp2_with fail
                  refine (inS_ex _ _ _ _).mono ?_
                  rintro e w12 ⟨b2, rfl, rfl⟩
                  cases b2
                  · go_wp2_with fail
                    go_roundw
                    case rel => exact ⟨k + 1, by omega, by go_num, D4.out⟩
                    case measure => simp [intOf]; omega
                  · go_wp2_with fail
                    go_roundw
                    case rel => exact ⟨k + 1, by omega, by go_num, D3.out⟩
                    case measure => simp [intOf]; omega
              · obtain rfl : k = W * H := by omega
                go_wp2_with fail
                go_roundw
                case rel => exact ⟨q - 1, by omega, by simp; omega, D.le (by omega)⟩
                case measure => simp [intOf]; omega
  · go_wp2_with fail
    go_loopw [56] (fun v wr => ∃ k : Nat, k ≤ W * H ∧ v = .int .i64 k ∧ DrawInv B w s A n c l w.heap.size (w.heap.size + 1) (W * H) (i + 1 + k) wr) (fun v _ => W * H - (intOf v).toNat)
    case atStart => exact ⟨0, Nat.zero_le _, rfl, D1⟩
    case round =>
      obtain ⟨k, hk, rfl, D⟩ := hrel
      by_cases hlt : k < W * H
      · have i1 : (k : Int) < ((W * H : Nat) : Int) := by omega
        have i2 : (0 : Int) ≤ (k : Int) := by omega
        go_wp2_with fail
        refine (D.one hn (by omega) 5 (by decide) (by decide)).mono ?_
        rintro e w2 ⟨b, rfl, D2⟩
        obtain ⟨⟨u, cu⟩, fu⟩ := D2.cells hlt
        have D3 := Lib.hid (D2.put k (!b))
        clear D2
        go_wp2_with fail
        go_roundw
        case rel => exact ⟨k + 1, by omega, by go_num, D3.out⟩
        case measure => simp [intOf]; omega
      · obtain rfl : k = W * H := by omega
        clear D1
        have DT := D.le (show i + 1 + W * H ≤ 400 by omega)
        clear D
        go_wp2_with fail
        refine (DT.pick hn (by omega) 4 (by decide) (by decide)).mono ?_
        rintro e w5 ⟨k5, hk5, rfl, D5⟩
        clear DT
        go_wp2_with fail
        go_loopw [13] (fun v wr => ∃ k : Nat, k ≤ 3 ∧ v = .int .i64 k ∧ DrawInv B w s A n c l w.heap.size (w.heap.size + 1) (W * H) (401 + 5 * (3 - k)) wr) (fun v _ => (intOf v).toNat)
        case atStart => exact ⟨k5, by omega, rfl, D5.le (by omega)⟩
        case round =>
          obtain ⟨q, hq, rfl, D⟩ := hrel
          clear D5
          by_cases hz : q = 0
          · subst hz
            obtain ⟨L, hL, hB⟩ := D.list
            have M := Lib.hid (MK.out _ _ _ hL hB)
            have HD := Lib.hid D
            have HLL := Lib.hid hL
            clear D hB hL
            go_wp2_with fail
            refine M.out.mono ?_
            rintro e w6 ⟨A6, c6, rfl, own6, hb6⟩
            have hR := HD.out.res.under hb6 HD.out.res.lt
            have f0 := hR.free 0
            have c0 := hR.cell 0
            have cs := (hR.store 0 (.slice A6 H c6)).cell 0
            simp at c0 cs
            have hgr := HD.out.chg.size
            have hRlt := HD.out.res.lt
            go_wp2_with fail
            refine bodyPost_ret (v := .agg #[.slice A6 H c6]) (by simp [results, Tryd.results57, go_sem, cs]) rfl ⟨A6, c6, L, rfl, HLL.out, ?_, ?_⟩
            · exact own_base (ownsRow_setCell_below own6 (a := ⟨w.heap.size, 0, none⟩) (by show w.heap.size < wr.heap.size; omega) _) hgr
            · exact (HD.out.chg.ext hb6).store (p := ⟨w.heap.size, 0, none⟩) (.inr (Nat.le_refl _)) _
          · have t0 : (0 : Int) < (q : Int) := by omega
            go_wp2_with fail
            refine (D.pick hn (by omega) W (by omega) (by omega)).mono ?_
            rintro e w6 ⟨x, hx, rfl, D6⟩
            clear D
            go_wp2_with fail
            refine (D6.pick hn (by omega) H (by omega) (by omega)).mono ?_
            rintro e w7 ⟨y, hy, rfl, D7⟩
            clear D6
            go_wp2_with fail
            refine (D7.pick hn (by omega) ((W : Int) - x) (by omega) (by omega)).mono ?_
            rintro e w8 ⟨wd, hwd, rfl, D8⟩
            clear D7
            go_wp2_with fail
            refine (D8.pick hn (by omega) ((H : Int) - y) (by omega) (by omega)).mono ?_
            rintro e w9 ⟨ht, hht, rfl, D9⟩
            clear D8
            go_wp2_with fail
            refine (D9.one hn (by omega) 3 (by decide) (by decide)).mono ?_
            rintro e w10 ⟨bl, rfl, D10⟩
            clear D9
            go_wp2_with fail
            go_loopw [109] (fun v wr => ∃ k : Nat, k ≤ W * H ∧ v = .int .i64 k ∧ DrawInv B w s A n c l w.heap.size (w.heap.size + 1) (W * H) (401 + 5 * (3 - q) + 5) wr) (fun v _ => W * H - (intOf v).toNat)
            case atStart => exact ⟨0, Nat.zero_le _, rfl, D10⟩
            case round =>
              obtain ⟨k, hk, rfl, D⟩ := hrel
              clear D10
              by_cases hlt : k < W * H
              · have i1 : (k : Int) < ((W * H : Nat) : Int) := by omega
                have i2 : (0 : Int) ≤ (k : Int) := by omega
                have iW : (W : Int) ≠ 0 := by omega
                obtain ⟨⟨u, cu⟩, fu⟩ := D.cells hlt
                have D3 := Lib.hid (D.put k (!bl))
                have D4 := Lib.hid D
                clear D
                go_wp2_with fail
                refine (inS_ex _ _ _ _).mono ?_
                rintro e w11 ⟨b1, rfl, rfl⟩
                cases b1
                · go_wp2_with fail
                  go_roundw
                  case rel => exact ⟨k + 1, by omega, by go_num, D4.out⟩
                  case measure => simp [intOf]; omega
                · go_wp2_with fail
                  refine (inS_ex _ _ _ _).mono ?_
                  rintro e w12 ⟨b2, rfl, rfl⟩
                  cases b2
                  · go_wp2_with fail
                    go_roundw
                    case rel => exact ⟨k + 1, by omega, by go_num, D4.out⟩
                    case measure => simp [intOf]; omega
                  · go_wp2_with fail
                    go_roundw
                    case rel => exact ⟨k + 1, by omega, by go_num, D3.out⟩
                    case measure => simp [intOf]; omega
              · obtain rfl : k = W * H := by omega
                go_wp2_with fail
                go_roundw
                case rel => exact ⟨q - 1, by omega, by simp; omega, D.le (by omega)⟩
                case measure => simp [intOf]; omega
  · go_wp2_with fail
    refine (D1.one hn (by omega) 2 (by decide) (by decide)).mono ?_
    rintro e w2 ⟨b, rfl, D2⟩
    clear D1
    go_wp2_with fail
    go_loopw [72] (fun v wr => ∃ k : Nat, k ≤ W * H ∧ v = .int .i64 k ∧ DrawInv B w s A n c l w.heap.size (w.heap.size + 1) (W * H) (i + 2) wr) (fun v _ => W * H - (intOf v).toNat)
    case atStart => exact ⟨0, Nat.zero_le _, rfl, D2⟩
    case round =>
      obtain ⟨k, hk, rfl, D⟩ := hrel
      clear D2
      by_cases hlt : k < W * H
      · have i1 : (k : Int) < ((W * H : Nat) : Int) := by omega
        have i2 : (0 : Int) ≤ (k : Int) := by omega
        obtain ⟨⟨u, cu⟩, fu⟩ := D.cells hlt
        have D3 := Lib.hid (D.put k b)
        clear D
        go_wp2_with fail
        go_roundw
        case rel => exact ⟨k + 1, by omega, by go_num, D3.out⟩
        case measure => simp [intOf]; omega
      · obtain rfl : k = W * H := by omega
        have DT := D.le (show i + 2 ≤ 400 by omega)
        clear D
        go_wp2_with fail
        refine (DT.pick hn (by omega) 4 (by decide) (by decide)).mono ?_
        rintro e w5 ⟨k5, hk5, rfl, D5⟩
        clear DT
        go_wp2_with fail
        go_loopw [13] (fun v wr => ∃ k : Nat, k ≤ 3 ∧ v = .int .i64 k ∧ DrawInv B w s A n c l w.heap.size (w.heap.size + 1) (W * H) (401 + 5 * (3 - k)) wr) (fun v _ => (intOf v).toNat)
        case atStart => exact ⟨k5, by omega, rfl, D5.le (by omega)⟩
        case round =>
          obtain ⟨q, hq, rfl, D⟩ := hrel
          clear D5
          by_cases hz : q = 0
          · subst hz
            obtain ⟨L, hL, hB⟩ := D.list
            have M := Lib.hid (MK.out _ _ _ hL hB)
            have HD := Lib.hid D
            have HLL := Lib.hid hL
            clear D hB hL
            go_wp2_with fail
            refine M.out.mono ?_
            rintro e w6 ⟨A6, c6, rfl, own6, hb6⟩
            have hR := HD.out.res.under hb6 HD.out.res.lt
            have f0 := hR.free 0
            have c0 := hR.cell 0
            have cs := (hR.store 0 (.slice A6 H c6)).cell 0
            simp at c0 cs
            have hgr := HD.out.chg.size
            have hRlt := HD.out.res.lt
            go_wp2_with fail
            refine bodyPost_ret (v := .agg #[.slice A6 H c6]) (by simp [results, Tryd.results57, go_sem, cs]) rfl ⟨A6, c6, L, rfl, HLL.out, ?_, ?_⟩
            · exact own_base (ownsRow_setCell_below own6 (a := ⟨w.heap.size, 0, none⟩) (by show w.heap.size < wr.heap.size; omega) _) hgr
            · exact (HD.out.chg.ext hb6).store (p := ⟨w.heap.size, 0, none⟩) (.inr (Nat.le_refl _)) _
          · have t0 : (0 : Int) < (q : Int) := by omega
            go_wp2_with fail
            refine (D.pick hn (by omega) W (by omega) (by omega)).mono ?_
            rintro e w6 ⟨x, hx, rfl, D6⟩
            clear D
            go_wp2_with fail
            refine (D6.pick hn (by omega) H (by omega) (by omega)).mono ?_
            rintro e w7 ⟨y, hy, rfl, D7⟩
            clear D6
            go_wp2_with fail
            refine (D7.pick hn (by omega) ((W : Int) - x) (by omega) (by omega)).mono ?_
            rintro e w8 ⟨wd, hwd, rfl, D8⟩
            clear D7
            go_wp2_with fail
            refine (D8.pick hn (by omega) ((H : Int) - y) (by omega) (by omega)).mono ?_
            rintro e w9 ⟨ht, hht, rfl, D9⟩
            clear D8
            go_wp2_with fail
            refine (D9.one hn (by omega) 3 (by decide) (by decide)).mono ?_
            rintro e w10 ⟨bl, rfl, D10⟩
            clear D9
            go_wp2_with fail
            go_loopw [109] (fun v wr => ∃ k : Nat, k ≤ W * H ∧ v = .int .i64 k ∧ DrawInv B w s A n c l w.heap.size (w.heap.size + 1) (W * H) (401 + 5 * (3 - q) + 5) wr) (fun v _ => W * H - (intOf v).toNat)
            case atStart => exact ⟨0, Nat.zero_le _, rfl, D10⟩
            case round =>
              obtain ⟨k, hk, rfl, D⟩ := hrel
              clear D10
              by_cases hlt : k < W * H
              · have i1 : (k : Int) < ((W * H : Nat) : Int) := by omega
                have i2 : (0 : Int) ≤ (k : Int) := by omega
                have iW : (W : Int) ≠ 0 := by omega
                obtain ⟨⟨u, cu⟩, fu⟩ := D.cells hlt
                have D3 := Lib.hid (D.put k (!bl))
                have D4 := Lib.hid D
                clear D
                go_wp2_with fail
                refine (inS_ex _ _ _ _).mono ?_
                rintro e w11 ⟨b1, rfl, rfl⟩
                cases b1
                · go_wp2_with fail
                  go_roundw
                  case rel => exact ⟨k + 1, by omega, by go_num, D4.out⟩
                  case measure => simp [intOf]; omega
                · go_wp2_with fail
                  refine (inS_ex _ _ _ _).mono ?_
                  rintro e w12 ⟨b2, rfl, rfl⟩
                  cases b2
                  · go_wp2_with fail
                    go_roundw
                    case rel => exact ⟨k + 1, by omega, by go_num, D4.out⟩
                    case measure => simp [intOf]; omega
                  · go_wp2_with fail
                    go_roundw
                    case rel => exact ⟨k + 1, by omega, by go_num, D3.out⟩
                    case measure => simp [intOf]; omega
              · obtain rfl : k = W * H := by omega
                go_wp2_with fail
                go_roundw
                case rel => exact ⟨q - 1, by omega, by simp; omega, D.le (by omega)⟩
                case measure => simp [intOf]; omega
  · have DT := D1.le (show i + 1 ≤ 400 by omega)
    clear D1
    go_wp2_with fail
    refine (DT.pick hn (by omega) 4 (by decide) (by decide)).mono ?_
    rintro e w5 ⟨k5, hk5, rfl, D5⟩
    clear DT
    go_wp2_with fail
    go_loopw [13] (fun v wr => ∃ k : Nat, k ≤ 3 ∧ v = .int .i64 k ∧ DrawInv B w s A n c l w.heap.size (w.heap.size + 1) (W * H) (401 + 5 * (3 - k)) wr) (fun v _ => (intOf v).toNat)
    case atStart => exact ⟨k5, by omega, rfl, D5.le (by omega)⟩
    case round =>
      obtain ⟨q, hq, rfl, D⟩ := hrel
      clear D5
      by_cases hz : q = 0
      · subst hz
        obtain ⟨L, hL, hB⟩ := D.list
        have M := Lib.hid (MK.out _ _ _ hL hB)
        have HD := Lib.hid D
        have HLL := Lib.hid hL
        clear D hB hL
        go_wp2_with fail
        refine M.out.mono ?_
        rintro e w6 ⟨A6, c6, rfl, own6, hb6⟩
        have hR := HD.out.res.under hb6 HD.out.res.lt
        have f0 := hR.free 0
        have c0 := hR.cell 0
        have cs := (hR.store 0 (.slice A6 H c6)).cell 0
        simp at c0 cs
        have hgr := HD.out.chg.size
        have hRlt := HD.out.res.lt
        go_wp2_with fail
        refine bodyPost_ret (v := .agg #[.slice A6 H c6]) (by simp [results, Tryd.results57, go_sem, cs]) rfl ⟨A6, c6, L, rfl, HLL.out, ?_, ?_⟩
        · exact own_base (ownsRow_setCell_below own6 (a := ⟨w.heap.size, 0, none⟩) (by show w.heap.size < wr.heap.size; omega) _) hgr
        · exact (HD.out.chg.ext hb6).store (p := ⟨w.heap.size, 0, none⟩) (.inr (Nat.le_refl _)) _
      · have t0 : (0 : Int) < (q : Int) := by omega
        go_wp2_with fail
        refine (D.pick hn (by omega) W (by omega) (by omega)).mono ?_
        rintro e w6 ⟨x, hx, rfl, D6⟩
        clear D
        go_wp2_with fail
        refine (D6.pick hn (by omega) H (by omega) (by omega)).mono ?_
        rintro e w7 ⟨y, hy, rfl, D7⟩
        clear D6
        go_wp2_with fail
        refine (D7.pick hn (by omega) ((W : Int) - x) (by omega) (by omega)).mono ?_
        rintro e w8 ⟨wd, hwd, rfl, D8⟩
        clear D7
        go_wp2_with fail
        refine (D8.pick hn (by omega) ((H : Int) - y) (by omega) (by omega)).mono ?_
        rintro e w9 ⟨ht, hht, rfl, D9⟩
        clear D8
        go_wp2_with fail
        refine (D9.one hn (by omega) 3 (by decide) (by decide)).mono ?_
        rintro e w10 ⟨bl, rfl, D10⟩
        clear D9
        go_wp2_with fail
        go_loopw [109] (fun v wr => ∃ k : Nat, k ≤ W * H ∧ v = .int .i64 k ∧ DrawInv B w s A n c l w.heap.size (w.heap.size + 1) (W * H) (401 + 5 * (3 - q) + 5) wr) (fun v _ => W * H - (intOf v).toNat)
        case atStart => exact ⟨0, Nat.zero_le _, rfl, D10⟩
        case round =>
          obtain ⟨k, hk, rfl, D⟩ := hrel
          clear D10
          by_cases hlt : k < W * H
          · have i1 : (k : Int) < ((W * H : Nat) : Int) := by omega
            have i2 : (0 : Int) ≤ (k : Int) := by omega
            have iW : (W : Int) ≠ 0 := by omega
            obtain ⟨⟨u, cu⟩, fu⟩ := D.cells hlt
            have D3 := Lib.hid (D.put k (!bl))
            have D4 := Lib.hid D
            clear D
            go_wp2_with fail
            refine (inS_ex _ _ _ _).mono ?_
            rintro e w11 ⟨b1, rfl, rfl⟩
            cases b1
            · go_wp2_with fail
              go_roundw
              case rel => exact ⟨k + 1, by omega, by go_num, D4.out⟩
              case measure => simp [intOf]; omega
            · go_wp2_with fail
              refine (inS_ex _ _ _ _).mono ?_
              rintro e w12 ⟨b2, rfl, rfl⟩
              cases b2
              · go_wp2_with fail
                go_roundw
                case rel => exact ⟨k + 1, by omega, by go_num, D4.out⟩
                case measure => simp [intOf]; omega
              · go_wp2_with fail
                go_roundw
                case rel => exact ⟨k + 1, by omega, by go_num, D3.out⟩
                case measure => simp [intOf]; omega
          · obtain rfl : k = W * H := by omega
            go_wp2_with fail
            go_roundw
            case rel => exact ⟨q - 1, by omega, by simp; omega, D.le (by omega)⟩
            case measure => simp [intOf]; omega
end Go.Proofs.YtogefmkplkddoaaDoor
