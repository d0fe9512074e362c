/- A drawn picture: some picture with so many columns and rows. A drawn grey picture, and where its source stands. Texts of drawn lines: one of a list of texts; pieces without a byte 10. Drawn lines of a desk: what is drawn has no byte 10 and is short. -/
import Derived.Test.YtgbciimfpahekaaDoorSrc
import Derived.Test.YtgbciimfpahekaaDoorSMake
import Derived.Test.YtgbciimfpahekaaDoorPicL
import Derived.Test.YtgbciimfpahekaaDoorB10G
import Derived.Test.YtgbciimfpahekaaDoorJnS
import Derived.Test.YtgbciimfpahekaaDoorHQ
namespace Go.Proofs.YtgbciimfpahekaaDoor
open Go.RowKit

/-- What is kept while a picture is drawn. -/
structure DrawInvG (B : Nat) (w : World) (s : Nat) (A : Option Addr) (n c : Nat) (l : List Int) (R g N i : Nat) (wr : World) : Prop where
  src : ∃ j, j ≤ i ∧ Src B wr s A n c l j
  res : Blk wr R 77 #[.slice none 0 0]
  list : ∃ L, L.length = N ∧ Blk wr g 4 (boolC L)
  chg : Chg (fun b => b = s ∨ w.heap.size ≤ b) w wr
  hg : w.heap.size ≤ g
  hR : w.heap.size ≤ R
  hs : s < w.heap.size
section
variable {B : Nat} {w : World} {s : Nat} {A : Option Addr} {n c : Nat} {l : List Int} {R g N i : Nat} {wr : World}
theorem DrawInvG.turn (h : DrawInvG B w s A n c l R g N i wr) {w' : World} {j i' : Nat} (hs : Src B w' s A n c l j) (hj : j ≤ i') (ho : One s wr w') : DrawInvG B w s A n c l R g N i' w' := by
  obtain ⟨L, hL, hB⟩ := h.list
  refine ⟨⟨j, hj, hs⟩, ho.blk h.res (fun e => by have := h.hR; have := h.hs; omega), ⟨L, hL, ho.blk hB (fun e => by have := h.hg; have := h.hs; omega)⟩, h.chg.trans (ho.mono (fun k hk => .inl hk)), h.hg, h.hR, h.hs⟩
theorem DrawInvG.put (h : DrawInvG B w s A n c l R g N i wr) (k : Nat) (b : Bool) : DrawInvG B w s A n c l R g N i (wr.setCell ⟨g, k, none⟩ (.bool b)) := by
  obtain ⟨L, hL, hB⟩ := h.list
  obtain ⟨j, hj, hs⟩ := h.src
  have hgs := h.hg
  have hss := h.hs
  refine ⟨⟨j, hj, hs.other (p := ⟨g, k, none⟩) (by have := hs.high; show B ≤ g; omega) (by show s ≠ g; omega) _⟩, h.res.apart (p := ⟨g, k, none⟩) (h.res.ne hB (by decide)) _, ⟨L.set k b, by simp [hL], ?_⟩, h.chg.store (p := ⟨g, k, none⟩) (.inr hgs) _, hgs, h.hR, hss⟩
  have := hB.store k (.bool b)
  rwa [boolC_set] at this
theorem DrawInvG.cells (h : DrawInvG B w s A n c l R g N i wr) {k : Nat} (hk : k < N) : (∃ u, wr.cell? ⟨g, k, none⟩ = some u) ∧ wr.frozen? ⟨g, k, none⟩ = false := by
  obtain ⟨L, hL, hB⟩ := h.list
  exact ⟨⟨_, (hB.cell k).trans (boolC_get L k (by omega))⟩, hB.free k⟩
theorem DrawInvG.le (h : DrawInvG B w s A n c l R g N i wr) {i' : Nat} (hi : i ≤ i') : DrawInvG B w s A n c l R g N i' wr := by
  obtain ⟨j, hj, hs⟩ := h.src
  exact ⟨⟨j, by omega, hs⟩, h.res, h.list, h.chg, h.hg, h.hR, h.hs⟩
theorem DrawInvG.srcAt (h : DrawInvG B w s A n c l w.heap.size g N i wr) {w' : World} (hb : Below wr.heap.size wr w') (u : Value) {i' : Nat} (hi : i ≤ i' := by omega) : ∃ j, j ≤ i' ∧ Src B (w'.setCell ⟨w.heap.size, 0, none⟩ u) s A n c l j := by
  obtain ⟨j, hj, hs⟩ := h.src
  have h1 := h.hs
  have h2 := hs.high
  exact ⟨j, by omega, (hs.ext hb).other (p := ⟨w.heap.size, 0, none⟩) (by show B ≤ w.heap.size; omega) (by show s ≠ w.heap.size; omega) u⟩
/-- A pick, in the midst. -/
theorem DrawInvG.pick (h : DrawInvG B w s A n c l R g N i wr) (hn : n ≤ maxLen) (hi : i ≤ 1000000) (m : Int) (hm : 1 ≤ m) (hm2 : m ≤ 200) :
    Calls Tryd.prog 33 #[.pointer (some ⟨s, 0, none⟩), .int .i64 m] wr fun e w' => ∃ k : Nat, (k : Int) < m ∧ e = .returned (.int .i64 k) ∧ DrawInvG B w s A n c l R g N (i + 1) w' := by
  obtain ⟨j, hj, hs⟩ := h.src
  refine (pick_any B s A n c j l m hm hm2 wr hs hn (by omega)).mono ?_
  rintro e w' ⟨⟨k, hk, rfl⟩, ⟨j', hj', hs'⟩, ho⟩
  exact ⟨k, hk, rfl, h.turn hs' (by omega) ho⟩
theorem DrawInvG.one (h : DrawInvG B w s A n c l R g N i wr) (hn : n ≤ maxLen) (hi : i ≤ 1000000) (m : Int) (hm : 1 ≤ m) (hm2 : m ≤ 200) :
    Calls Tryd.prog 51 #[.pointer (some ⟨s, 0, none⟩), .int .i64 m] wr fun e w' => ∃ b : Bool, e = .returned (.bool b) ∧ DrawInvG B w s A n c l R g N (i + 1) w' := by
  obtain ⟨j, hj, hs⟩ := h.src
  refine (one_any B s A n c j l m hm hm2 wr hs hn (by omega)).mono ?_
  rintro e w' ⟨⟨b, rfl⟩, ⟨j', hj', hs'⟩, ho⟩
  exact ⟨b, rfl, h.turn hs' (by omega) ho⟩
end

theorem inS_exG (a b c : Int) (w : World) : Calls Tryd.prog 59 #[.int .i64 a, .int .i64 b, .int .i64 c] w fun e w' => ∃ t : Bool, e = .returned (.bool t) ∧ w = w' :=
  (inS_any a b c w).mono fun _ _ ⟨h, k⟩ => ⟨_, h, k⟩

set_option maxRecDepth 100000 in
set_option maxHeartbeats 4000000 in
theorem drawG_any (B s : Nat) (A : Option Addr) (n c i : Nat) (l : List Int) (W H : Nat) (w : World) (h : Src B w s A n c l i) (hn : n ≤ maxLen) (hi : i ≤ 900000) (hW0 : 0 < W) (hW : W ≤ 16) (hH0 : 0 < H) (hH : H ≤ 16) :
    Calls Tryd.prog 50 #[.pointer (some ⟨s, 0, none⟩), .int .i64 W, .int .i64 H] w fun e w' => ∃ A2 c2 L, e = .returned (.agg #[.slice A2 H c2]) ∧ L.length = W * H ∧
      w'.ownsRow w.heap.size 9 1 (.slice A2 H c2) H (strs (rowsTo L W H)) ∧ Chg (fun b => b = s ∨ w.heap.size ≤ b) w w' ∧ ∃ j, j ≤ i + 330 ∧ Src B w' s A n c l j := by
  obtain ⟨i0, hi', hz0, hz1, hz2⟩ := info_parts boolInfo
  have hb : W * H ≤ 256 := Nat.le_trans (Nat.mul_le_mul hW hH) (by decide)
  have hc : (W : Int) * H = ((W * H : Nat) : Int) := by simp
  have hmk : ∀ V : World, (Instr.makeSlice 96 (.int .i64 ((W : Int) * H)) (.int .i64 ((W : Int) * H))).run Tryd.prog V = .ok (.slice (some ⟨V.heap.size, 0, none⟩) (W * H) (W * H)) (V.alloc (.cells (boolC (List.replicate (W * H) false)) 4)) := by
    intro V
    have h := run_make (P := Tryd.prog) V 96 4 i0 _ Tryd.underlying96 hi' hz0 .i64 .i64 ((W : Int) * H) ((W : Int) * H) (by omega) (Int.le_refl _) (by rw [hz2]; omega) (by omega)
    rw [h, hz1, hc, Int.toNat_natCast]
    show Result.ok _ (V.alloc (.cells (madeCells #[.bool false] (W * H * 1)) _)) = _
    rw [Nat.mul_one, boolC_made]
  have hm1 : (W : Int) * H ≤ 256 := by omega
  have hm0 : (0 : Int) ≤ (W : Int) * H := by omega
  have D0 : DrawInvG B w s A n c l w.heap.size (w.heap.size + 1) (W * H) i ((w.alloc (.cells #[.slice none 0 0] 77)).alloc (.cells (boolC (List.replicate (W * H) false)) 4)) := by
    refine ⟨⟨i, Nat.le_refl _, h.ext (Ext.more (Ext.more (Ext.refl _) _) _)⟩, (Blk.made _ _ _).more _, ⟨List.replicate (W * H) false, List.length_replicate, ?_⟩, ?_, by omega, Nat.le_refl _, h.at_.le⟩
    · have := Blk.made (w.alloc (.cells #[.slice none 0 0] 77)) 4 (boolC (List.replicate (W * H) false))
      simpa using this
    · exact (Chg.of_below (Ext.more (Ext.more (Ext.refl w) (.cells #[.slice none 0 0] 77)) (.cells (boolC (List.replicate (W * H) false)) 4))).mono (fun k hk => .inr hk)
  clear hc hi' hz0 hz1 hz2 h
  have MK := Lib.hid (fun (g : Nat) (L : List Bool) (V : World) (hL : L.length = W * H) (hB : Blk V g 4 (boolC L)) => make_any (some ⟨g, 0, none⟩) (W * H) W H L V (fun _ => ⟨g, rfl, hB.lt, fun i hi => by
    have hi2 : i < L.length := by simpa [bools] using hi
    rw [hB.cell i, boolC_get L i hi2]; simp [bools]⟩) hW0 (by omega) (by omega) hL)
  go_enter Tryd.func50, Tryd.ntmps50
  go_wp2_with fail
  refine (D0.pick hn (by omega) 5 (by decide) (by decide)).mono ?_
  rintro e w1 ⟨k, hk, rfl, D1⟩
  clear D0 hmk
  have hk' : k = 0 ∨ k = 1 ∨ k = 2 ∨ k = 3 ∨ k = 4 := by omega
  rcases hk' with rfl | rfl | rfl | rfl | rfl
  · go_wp2_with fail
    go_loopw [30] (fun v wr => ∃ k : Nat, k ≤ W * H ∧ v = .int .i64 k ∧ DrawInvG B w s A n c l w.heap.size (w.heap.size + 1) (W * H) (i + 1 + k) wr) (fun v _ => W * H - (intOf v).toNat)
    case atStart => exact ⟨0, Nat.zero_le _, rfl, D1⟩
    case round =>
      obtain ⟨k, hk, rfl, D⟩ := hrel
      by_cases hlt : k < W * H
      · have i1 : (k : Int) < ((W * H : Nat) : Int) := by omega
        have i2 : (0 : Int) ≤ (k : Int) := by omega
        go_wp2_with fail
        refine (D.one hn (by omega) 2 (by decide) (by decide)).mono ?_
        rintro e w2 ⟨b, rfl, D2⟩
        obtain ⟨⟨u, cu⟩, fu⟩ := D2.cells hlt
        have D3 := Lib.hid (D2.put k b)
        clear D2
        go_wp2_with fail
        go_roundw
        case rel => exact ⟨k + 1, by omega, by go_num, D3.out⟩
        case measure => simp [intOf]; omega
      · obtain rfl : k = W * H := by omega
        clear D1
        have DT := D.le (show i + 1 + W * H ≤ i + 300 by omega)
        clear D
        go_wp2_with fail
        refine (DT.pick hn (by omega) 4 (by decide) (by decide)).mono ?_
        rintro e w5 ⟨k5, hk5, rfl, D5⟩
        clear DT
        go_wp2_with fail
        go_loopw [13] (fun v wr => ∃ k : Nat, k ≤ 3 ∧ v = .int .i64 k ∧ DrawInvG B w s A n c l w.heap.size (w.heap.size + 1) (W * H) (i + 301 + 5 * (3 - k)) wr) (fun v _ => (intOf v).toNat)
        case atStart => exact ⟨k5, by omega, rfl, D5.le (by omega)⟩
        case round =>
          obtain ⟨q, hq, rfl, D⟩ := hrel
          clear D5
          by_cases hz : q = 0
          · subst hz
            obtain ⟨L, hL, hB⟩ := D.list
            have M := Lib.hid (MK.out _ _ _ hL hB)
            have HD := Lib.hid D
            have HLL := Lib.hid hL
            clear D hB hL
            go_wp2_with fail
            refine M.out.mono ?_
            rintro e w6 ⟨A6, c6, rfl, own6, hb6⟩
            have hR := HD.out.res.under hb6 HD.out.res.lt
            have f0 := hR.free 0
            have c0 := hR.cell 0
            have cs := (hR.store 0 (.slice A6 H c6)).cell 0
            simp at c0 cs
            have hgr := HD.out.chg.size
            have hRlt := HD.out.res.lt
            go_wp2_with fail
            refine bodyPost_ret (v := .agg #[.slice A6 H c6]) (by simp [results, Tryd.results50, go_sem, cs]) rfl ⟨A6, c6, L, rfl, HLL.out, ?_, ?_, ?_⟩
            · exact own_base (ownsRow_setCell_below own6 (a := ⟨w.heap.size, 0, none⟩) (by show w.heap.size < wr.heap.size; omega) _) hgr
            · exact (HD.out.chg.ext hb6).store (p := ⟨w.heap.size, 0, none⟩) (.inr (Nat.le_refl _)) _
            · exact HD.out.srcAt hb6 (.slice A6 H c6) (i' := i + 330) (by omega)
          · have t0 : (0 : Int) < (q : Int) := by omega
            go_wp2_with fail
            refine (D.pick hn (by omega) W (by omega) (by omega)).mono ?_
            rintro e w6 ⟨x, hx, rfl, D6⟩
            clear D
            go_wp2_with fail
            refine (D6.pick hn (by omega) H (by omega) (by omega)).mono ?_
            rintro e w7 ⟨y, hy, rfl, D7⟩
            clear D6
            go_wp2_with fail
            refine (D7.pick hn (by omega) ((W : Int) - x) (by omega) (by omega)).mono ?_
            rintro e w8 ⟨wd, hwd, rfl, D8⟩
            clear D7
            go_wp2_with fail
            refine (D8.pick hn (by omega) ((H : Int) - y) (by omega) (by omega)).mono ?_
            rintro e w9 ⟨ht, hht, rfl, D9⟩
            clear D8
            go_wp2_with fail
            refine (D9.one hn (by omega) 3 (by decide) (by decide)).mono ?_
            rintro e w10 ⟨bl, rfl, D10⟩
            clear D9
            go_wp2_with fail
            go_loopw [109] (fun v wr => ∃ k : Nat, k ≤ W * H ∧ v = .int .i64 k ∧ DrawInvG B w s A n c l w.heap.size (w.heap.size + 1) (W * H) (i + 301 + 5 * (3 - q) + 5) wr) (fun v _ => W * H - (intOf v).toNat)
            case atStart => exact ⟨0, Nat.zero_le _, rfl, D10⟩
            case round =>
              obtain ⟨k, hk, rfl, D⟩ := hrel
              clear D10
              by_cases hlt : k < W * H
              · have i1 : (k : Int) < ((W * H : Nat) : Int) := by omega
                have i2 : (0 : Int) ≤ (k : Int) := by omega
                have iW : (W : Int) ≠ 0 := by omega
                obtain ⟨⟨u, cu⟩, fu⟩ := D.cells hlt
                have D3 := Lib.hid (D.put k (!bl))
                have D4 := Lib.hid D
                clear D
                go_wp2_with fail
                refine (inS_exG _ _ _ _).mono ?_
                rintro e w11 ⟨b1, rfl, rfl⟩
                cases b1
                · go_wp2_with fail
                  go_roundw
                  case rel => exact ⟨k + 1, by omega, by go_num, D4.out⟩
                  case measure => simp [intOf]; omega
                · go_wp2_with fail
                  refine (inS_exG _ _ _ _).mono ?_
                  rintro e w12 ⟨b2, rfl, rfl⟩
                  cases b2
                  · go_wp2_with fail
                    go_roundw
                    case rel => exact ⟨k + 1, by omega, by go_num, D4.out⟩
                    case measure => simp [intOf]; omega
                  · go_wp2_with fail
                    go_roundw
                    case rel => exact ⟨k + 1, by omega, by go_num, D3.out⟩
                    case measure => simp [intOf]; omega
              · obtain rfl : k = W * H := by omega
                go_wp2_with fail
                go_roundw
                case rel => exact ⟨q - 1, by omega, by simp; omega, D.le (by omega)⟩
                case measure => simp [intOf]; omega
  · go_wp2_with fail
    go_loopw [43] (fun v wr => ∃ k : Nat, k ≤ W * H ∧ v = .int .i64 k ∧ DrawInvG B w s A n c l w.heap.size (w.heap.size + 1) (W * H) (i + 1 + k) wr) (fun v _ => W * H - (intOf v).toNat)
    case atStart => exact ⟨0, Nat.zero_le _, rfl, D1⟩
    case round =>
      obtain ⟨k, hk, rfl, D⟩ := hrel
      by_cases hlt : k < W * H
      · have i1 : (k : Int) < ((W * H : Nat) : Int) := by omega
        have i2 : (0 : Int) ≤ (k : Int) := by omega
        go_wp2_with fail
        refine (D.one hn (by omega) 4 (by decide) (by decide)).mono ?_
        rintro e w2 ⟨b, rfl, D2⟩
        obtain ⟨⟨u, cu⟩, fu⟩ := D2.cells hlt
        have D3 := Lib.hid (D2.put k b)
        clear D2
        go_wp2_with fail
        go_roundw
        case rel => exact ⟨k + 1, by omega, by go_num, D3.out⟩
        case measure => simp [intOf]; omega
      · obtain rfl : k = W * H := by omega
        clear D1
        have DT := D.le (show i + 1 + W * H ≤ i + 300 by omega)
        clear D
        go_wp2_with fail
        refine (DT.pick hn (by omega) 4 (by decide) (by decide)).mono ?_
        rintro e w5 ⟨k5, hk5, rfl, D5⟩
        clear DT
        go_wp2_with fail
        go_loopw [13] (fun v wr => ∃ k : Nat, k ≤ 3 ∧ v = .int .i64 k ∧ DrawInvG B w s A n c l w.heap.size (w.heap.size + 1) (W * H) (i + 301 + 5 * (3 - k)) wr) (fun v _ => (intOf v).toNat)
        case atStart => exact ⟨k5, by omega, rfl, D5.le (by omega)⟩
        case round =>
          obtain ⟨q, hq, rfl, D⟩ := hrel
          clear D5
          by_cases hz : q = 0
          · subst hz
            obtain ⟨L, hL, hB⟩ := D.list
            have M := Lib.hid (MK.out _ _ _ hL hB)
            have HD := Lib.hid D
            have HLL := Lib.hid hL
            clear D hB hL
            go_wp2_with fail
            refine M.out.mono ?_
            rintro e w6 ⟨A6, c6, rfl, own6, hb6⟩
            have hR := HD.out.res.under hb6 HD.out.res.lt
            have f0 := hR.free 0
            have c0 := hR.cell 0
            have cs := (hR.store 0 (.slice A6 H c6)).cell 0
            simp at c0 cs
            have hgr := HD.out.chg.size
            have hRlt := HD.out.res.lt
            go_wp2_with fail
            refine bodyPost_ret (v := .agg #[.slice A6 H c6]) (by simp [results, Tryd.results50, go_sem, cs]) rfl ⟨A6, c6, L, rfl, HLL.out, ?_, ?_, ?_⟩
            · exact own_base (ownsRow_setCell_below own6 (a := ⟨w.heap.size, 0, none⟩) (by show w.heap.size < wr.heap.size; omega) _) hgr
            · exact (HD.out.chg.ext hb6).store (p := ⟨w.heap.size, 0, none⟩) (.inr (Nat.le_refl _)) _
            · exact HD.out.srcAt hb6 (.slice A6 H c6) (i' := i + 330) (by omega)
          · have t0 : (0 : Int) < (q : Int) := by omega
            go_wp2_with fail
            refine (D.pick hn (by omega) W (by omega) (by omega)).mono ?_
            rintro e w6 ⟨x, hx, rfl, D6⟩
            clear D
            go_wp2_with fail
            refine (D6.pick hn (by omega) H (by omega) (by omega)).mono ?_
            rintro e w7 ⟨y, hy, rfl, D7⟩
            clear D6
            go_wp2_with fail
            refine (D7.pick hn (by omega) ((W : Int) - x) (by omega) (by omega)).mono ?_
            rintro e w8 ⟨wd, hwd, rfl, D8⟩
            clear D7
            go_wp2_with fail
            refine (D8.pick hn (by omega) ((H : Int) - y) (by omega) (by omega)).mono ?_
            rintro e w9 ⟨ht, hht, rfl, D9⟩
            clear D8
            go_wp2_with fail
            refine (D9.one hn (by omega) 3 (by decide) (by decide)).mono ?_
            rintro e w10 ⟨bl, rfl, D10⟩
            clear D9
            go_wp2_with fail
            go_loopw [109] (fun v wr => ∃ k : Nat, k ≤ W * H ∧ v = .int .i64 k ∧ DrawInvG B w s A n c l w.heap.size (w.heap.size + 1) (W * H) (i + 301 + 5 * (3 - q) + 5) wr) (fun v _ => W * H - (intOf v).toNat)
            case atStart => exact ⟨0, Nat.zero_le _, rfl, D10⟩
            case round =>
              obtain ⟨k, hk, rfl, D⟩ := hrel
              clear D10
              by_cases hlt : k < W * H
              · have i1 : (k : Int) < ((W * H : Nat) : Int) := by omega
                have i2 : (0 : Int) ≤ (k : Int) := by omega
                have iW : (W : Int) ≠ 0 := by omega
                obtain ⟨⟨u, cu⟩, fu⟩ := D.cells hlt
                have D3 := Lib.hid (D.put k (!bl))
                have D4 := Lib.hid D
                clear D
                go_wp2_with fail
                refine (inS_exG _ _ _ _).mono ?_
                rintro e w11 ⟨b1, rfl, rfl⟩
                cases b1
                · go_wp2_with fail
                  go_roundw
                  case rel => exact ⟨k + 1, by omega, by go_num, D4.out⟩
                  case measure => simp [intOf]; omega
                · go_wp2_with fail
                  refine (inS_exG _ _ _ _).mono ?_
                  rintro e w12 ⟨b2, rfl, rfl⟩
                  cases b2
                  · go_wp2_with fail
                    go_roundw
                    case rel => exact ⟨k + 1, by omega, by go_num, D4.out⟩
                    case measure => simp [intOf]; omega
                  · go_wp2_with fail
                    go_roundw
                    case rel => exact ⟨k + 1, by omega, by go_num, D3.out⟩
                    case measure => simp [intOf]; omega
              · obtain rfl : k = W * H := by omega
                go_wp2_with fail
                go_roundw
                case rel => exact ⟨q - 1, by omega, by simp; omega, D.le (by omega)⟩
                case measure => simp [intOf]; omega
  · go_wp2_with fail
    go_loopw [56] (fun v wr => ∃ k : Nat, k ≤ W * H ∧ v = .int .i64 k ∧ DrawInvG B w s A n c l w.heap.size (w.heap.size + 1) (W * H) (i + 1 + k) wr) (fun v _ => W * H - (intOf v).toNat)
    case atStart => exact ⟨0, Nat.zero_le _, rfl, D1⟩
    case round =>
      obtain ⟨k, hk, rfl, D⟩ := hrel
      by_cases hlt : k < W * H
      · have i1 : (k : Int) < ((W * H : Nat) : Int) := by omega
        have i2 : (0 : Int) ≤ (k : Int) := by omega
        go_wp2_with fail
        refine (D.one hn (by omega) 5 (by decide) (by decide)).mono ?_
        rintro e w2 ⟨b, rfl, D2⟩
        obtain ⟨⟨u, cu⟩, fu⟩ := D2.cells hlt
        have D3 := Lib.hid (D2.put k (!b))
        clear D2
        go_wp2_with fail
        go_roundw
        case rel => exact ⟨k + 1, by omega, by go_num, D3.out⟩
        case measure => simp [intOf]; omega
      · obtain rfl : k = W * H := by omega
        clear D1
        have DT := D.le (show i + 1 + W * H ≤ i + 300 by omega)
        clear D
        go_wp2_with fail
        refine (DT.pick hn (by omega) 4 (by decide) (by decide)).mono ?_
        rintro e w5 ⟨k5, hk5, rfl, D5⟩
        clear DT
        go_wp2_with fail
        go_loopw [13] (fun v wr => ∃ k : Nat, k ≤ 3 ∧ v = .int .i64 k ∧ DrawInvG B w s A n c l w.heap.size (w.heap.size + 1) (W * H) (i + 301 + 5 * (3 - k)) wr) (fun v _ => (intOf v).toNat)
        case atStart => exact ⟨k5, by omega, rfl, D5.le (by omega)⟩
        case round =>
          obtain ⟨q, hq, rfl, D⟩ := hrel
          clear D5
          by_cases hz : q = 0
          · subst hz
            obtain ⟨L, hL, hB⟩ := D.list
            have M := Lib.hid (MK.out _ _ _ hL hB)
            have HD := Lib.hid D
            have HLL := Lib.hid hL
            clear D hB hL
            go_wp2_with fail
            refine M.out.mono ?_
            rintro e w6 ⟨A6, c6, rfl, own6, hb6⟩
            have hR := HD.out.res.under hb6 HD.out.res.lt
            have f0 := hR.free 0
            have c0 := hR.cell 0
            have cs := (hR.store 0 (.slice A6 H c6)).cell 0
            simp at c0 cs
            have hgr := HD.out.chg.size
            have hRlt := HD.out.res.lt
            go_wp2_with fail
            refine bodyPost_ret (v := .agg #[.slice A6 H c6]) (by simp [results, Tryd.results50, go_sem, cs]) rfl ⟨A6, c6, L, rfl, HLL.out, ?_, ?_, ?_⟩
            · exact own_base (ownsRow_setCell_below own6 (a := ⟨w.heap.size, 0, none⟩) (by show w.heap.size < wr.heap.size; omega) _) hgr
            · exact (HD.out.chg.ext hb6).store (p := ⟨w.heap.size, 0, none⟩) (.inr (Nat.le_refl _)) _
            · exact HD.out.srcAt hb6 (.slice A6 H c6) (i' := i + 330) (by omega)
          · have t0 : (0 : Int) < (q : Int) := by omega
            go_wp2_with fail
            refine (D.pick hn (by omega) W (by omega) (by omega)).mono ?_
            rintro e w6 ⟨x, hx, rfl, D6⟩
            clear D
            go_wp2_with fail
            refine (D6.pick hn (by omega) H (by omega) (by omega)).mono ?_
            rintro e w7 ⟨y, hy, rfl, D7⟩
            clear D6
            go_wp2_with fail
            refine (D7.pick hn (by omega) ((W : Int) - x) (by omega) (by omega)).mono ?_
            rintro e w8 ⟨wd, hwd, rfl, D8⟩
            clear D7
            go_wp2_with fail
            refine (D8.pick hn (by omega) ((H : Int) - y) (by omega) (by omega)).mono ?_
            rintro e w9 ⟨ht, hht, rfl, D9⟩
            clear D8
            go_wp2_with fail
            refine (D9.one hn (by omega) 3 (by decide) (by decide)).mono ?_
            rintro e w10 ⟨bl, rfl, D10⟩
            clear D9
            go_wp2_with fail
            go_loopw [109] (fun v wr => ∃ k : Nat, k ≤ W * H ∧ v = .int .i64 k ∧ DrawInvG B w s A n c l w.heap.size (w.heap.size + 1) (W * H) (i + 301 + 5 * (3 - q) + 5) wr) (fun v _ => W * H - (intOf v).toNat)
            case atStart => exact ⟨0, Nat.zero_le _, rfl, D10⟩
            case round =>
              obtain ⟨k, hk, rfl, D⟩ := hrel
              clear D10
              by_cases hlt : k < W * H
              · have i1 : (k : Int) < ((W * H : Nat) : Int) := by omega
                have i2 : (0 : Int) ≤ (k : Int) := by omega
                have iW : (W : Int) ≠ 0 := by omega
                obtain ⟨⟨u, cu⟩, fu⟩ := D.cells hlt
                have D3 := Lib.hid (D.put k (!bl))
                have D4 := Lib.hid D
                clear D
                go_wp2_with fail
                refine (inS_exG _ _ _ _).mono ?_
                rintro e w11 ⟨b1, rfl, rfl⟩
                cases b1
                · go_wp2_with fail
                  go_roundw
                  case rel => exact ⟨k + 1, by omega, by go_num, D4.out⟩
                  case measure => simp [intOf]; omega
                · go_wp2_with fail
                  refine (inS_exG _ _ _ _).mono ?_
                  rintro e w12 ⟨b2, rfl, rfl⟩
                  cases b2
                  · go_wp2_with fail
                    go_roundw
                    case rel => exact ⟨k + 1, by omega, by go_num, D4.out⟩
                    case measure => simp [intOf]; omega
                  · go_wp2_with fail
                    go_roundw
                    case rel => exact ⟨k + 1, by omega, by go_num, D3.out⟩
                    case measure => simp [intOf]; omega
              · obtain rfl : k = W * H := by omega
                go_wp2_with fail
                go_roundw
                case rel => exact ⟨q - 1, by omega, by simp; omega, D.le (by omega)⟩
                case measure => simp [intOf]; omega
  · go_wp2_with fail
    refine (D1.one hn (by omega) 2 (by decide) (by decide)).mono ?_
    rintro e w2 ⟨b, rfl, D2⟩
    clear D1
    go_wp2_with fail
    go_loopw [72] (fun v wr => ∃ k : Nat, k ≤ W * H ∧ v = .int .i64 k ∧ DrawInvG B w s A n c l w.heap.size (w.heap.size + 1) (W * H) (i + 2) wr) (fun v _ => W * H - (intOf v).toNat)
    case atStart => exact ⟨0, Nat.zero_le _, rfl, D2⟩
    case round =>
      obtain ⟨k, hk, rfl, D⟩ := hrel
      clear D2
      by_cases hlt : k < W * H
      · have i1 : (k : Int) < ((W * H : Nat) : Int) := by omega
        have i2 : (0 : Int) ≤ (k : Int) := by omega
        obtain ⟨⟨u, cu⟩, fu⟩ := D.cells hlt
        have D3 := Lib.hid (D.put k b)
        clear D
        go_wp2_with fail
        go_roundw
        case rel => exact ⟨k + 1, by omega, by go_num, D3.out⟩
        case measure => simp [intOf]; omega
      · obtain rfl : k = W * H := by omega
        have DT := D.le (show i + 2 ≤ i + 300 by omega)
        clear D
        go_wp2_with fail
        refine (DT.pick hn (by omega) 4 (by decide) (by decide)).mono ?_
        rintro e w5 ⟨k5, hk5, rfl, D5⟩
        clear DT
        go_wp2_with fail
        go_loopw [13] (fun v wr => ∃ k : Nat, k ≤ 3 ∧ v = .int .i64 k ∧ DrawInvG B w s A n c l w.heap.size (w.heap.size + 1) (W * H) (i + 301 + 5 * (3 - k)) wr) (fun v _ => (intOf v).toNat)
        case atStart => exact ⟨k5, by omega, rfl, D5.le (by omega)⟩
        case round =>
          obtain ⟨q, hq, rfl, D⟩ := hrel
          clear D5
          by_cases hz : q = 0
          · subst hz
            obtain ⟨L, hL, hB⟩ := D.list
            have M := Lib.hid (MK.out _ _ _ hL hB)
            have HD := Lib.hid D
            have HLL := Lib.hid hL
            clear D hB hL
            go_wp2_with fail
            refine M.out.mono ?_
            rintro e w6 ⟨A6, c6, rfl, own6, hb6⟩
            have hR := HD.out.res.under hb6 HD.out.res.lt
            have f0 := hR.free 0
            have c0 := hR.cell 0
            have cs := (hR.store 0 (.slice A6 H c6)).cell 0
            simp at c0 cs
            have hgr := HD.out.chg.size
            have hRlt := HD.out.res.lt
            go_wp2_with fail
            refine bodyPost_ret (v := .agg #[.slice A6 H c6]) (by simp [results, Tryd.results50, go_sem, cs]) rfl ⟨A6, c6, L, rfl, HLL.out, ?_, ?_, ?_⟩
            · exact own_base (ownsRow_setCell_below own6 (a := ⟨w.heap.size, 0, none⟩) (by show w.heap.size < wr.heap.size; omega) _) hgr
            · exact (HD.out.chg.ext hb6).store (p := ⟨w.heap.size, 0, none⟩) (.inr (Nat.le_refl _)) _
            · exact HD.out.srcAt hb6 (.slice A6 H c6) (i' := i + 330) (by omega)
          · have t0 : (0 : Int) < (q : Int) := by omega
            go_wp2_with fail
            refine (D.pick hn (by omega) W (by omega) (by omega)).mono ?_
            rintro e w6 ⟨x, hx, rfl, D6⟩
            clear D
            go_wp2_with fail
            refine (D6.pick hn (by omega) H (by omega) (by omega)).mono ?_
            rintro e w7 ⟨y, hy, rfl, D7⟩
            clear D6
            go_wp2_with fail
            refine (D7.pick hn (by omega) ((W : Int) - x) (by omega) (by omega)).mono ?_
            rintro e w8 ⟨wd, hwd, rfl, D8⟩
            clear D7
            go_wp2_with fail
            refine (D8.pick hn (by omega) ((H : Int) - y) (by omega) (by omega)).mono ?_
            rintro e w9 ⟨ht, hht, rfl, D9⟩
            clear D8
            go_wp2_with fail
            refine (D9.one hn (by omega) 3 (by decide) (by decide)).mono ?_
            rintro e w10 ⟨bl, rfl, D10⟩
            clear D9
            go_wp2_with fail
            go_loopw [109] (fun v wr => ∃ k : Nat, k ≤ W * H ∧ v = .int .i64 k ∧ DrawInvG B w s A n c l w.heap.size (w.heap.size + 1) (W * H) (i + 301 + 5 * (3 - q) + 5) wr) (fun v _ => W * H - (intOf v).toNat)
            case atStart => exact ⟨0, Nat.zero_le _, rfl, D10⟩
            case round =>
              obtain ⟨k, hk, rfl, D⟩ := hrel
              clear D10
              by_cases hlt : k < W * H
              · have i1 : (k : Int) < ((W * H : Nat) : Int) := by omega
                have i2 : (0 : Int) ≤ (k : Int) := by omega
                have iW : (W : Int) ≠ 0 := by omega
                obtain ⟨⟨u, cu⟩, fu⟩ := D.cells hlt
                have D3 := Lib.hid (D.put k (!bl))
                have D4 := Lib.hid D
                clear D
                go_wp2_with fail
                refine (inS_exG _ _ _ _).mono ?_
                rintro e w11 ⟨b1, rfl, rfl⟩
                cases b1
                · go_wp2_with fail
                  go_roundw
                  case rel => exact ⟨k + 1, by omega, by go_num, D4.out⟩
                  case measure => simp [intOf]; omega
                · go_wp2_with fail
                  refine (inS_exG _ _ _ _).mono ?_
                  rintro e w12 ⟨b2, rfl, rfl⟩
                  cases b2
                  · go_wp2_with fail
                    go_roundw
                    case rel => exact ⟨k + 1, by omega, by go_num, D4.out⟩
                    case measure => simp [intOf]; omega
                  · go_wp2_with fail
                    go_roundw
                    case rel => exact ⟨k + 1, by omega, by go_num, D3.out⟩
                    case measure => simp [intOf]; omega
              · obtain rfl : k = W * H := by omega
                go_wp2_with fail
                go_roundw
                case rel => exact ⟨q - 1, by omega, by simp; omega, D.le (by omega)⟩
                case measure => simp [intOf]; omega
  · have DT := D1.le (show i + 1 ≤ i + 300 by omega)
    clear D1
    go_wp2_with fail
    refine (DT.pick hn (by omega) 4 (by decide) (by decide)).mono ?_
    rintro e w5 ⟨k5, hk5, rfl, D5⟩
    clear DT
    go_wp2_with fail
    go_loopw [13] (fun v wr => ∃ k : Nat, k ≤ 3 ∧ v = .int .i64 k ∧ DrawInvG B w s A n c l w.heap.size (w.heap.size + 1) (W * H) (i + 301 + 5 * (3 - k)) wr) (fun v _ => (intOf v).toNat)
    case atStart => exact ⟨k5, by omega, rfl, D5.le (by omega)⟩
    case round =>
      obtain ⟨q, hq, rfl, D⟩ := hrel
      clear D5
      by_cases hz : q = 0
      · subst hz
        obtain ⟨L, hL, hB⟩ := D.list
        have M := Lib.hid (MK.out _ _ _ hL hB)
        have HD := Lib.hid D
        have HLL := Lib.hid hL
        clear D hB hL
        go_wp2_with fail
        refine M.out.mono ?_
        rintro e w6 ⟨A6, c6, rfl, own6, hb6⟩
        have hR := HD.out.res.under hb6 HD.out.res.lt
        have f0 := hR.free 0
        have c0 := hR.cell 0
        have cs := (hR.store 0 (.slice A6 H c6)).cell 0
        simp at c0 cs
        have hgr := HD.out.chg.size
        have hRlt := HD.out.res.lt
        go_wp2_with fail
        refine bodyPost_ret (v := .agg #[.slice A6 H c6]) (by simp [results, Tryd.results50, go_sem, cs]) rfl ⟨A6, c6, L, rfl, HLL.out, ?_, ?_, ?_⟩
        · exact own_base (ownsRow_setCell_below own6 (a := ⟨w.heap.size, 0, none⟩) (by show w.heap.size < wr.heap.size; omega) _) hgr
        · exact (HD.out.chg.ext hb6).store (p := ⟨w.heap.size, 0, none⟩) (.inr (Nat.le_refl _)) _
        · exact HD.out.srcAt hb6 (.slice A6 H c6) (i' := i + 330) (by omega)
      · have t0 : (0 : Int) < (q : Int) := by omega
        go_wp2_with fail
        refine (D.pick hn (by omega) W (by omega) (by omega)).mono ?_
        rintro e w6 ⟨x, hx, rfl, D6⟩
        clear D
        go_wp2_with fail
        refine (D6.pick hn (by omega) H (by omega) (by omega)).mono ?_
        rintro e w7 ⟨y, hy, rfl, D7⟩
        clear D6
        go_wp2_with fail
        refine (D7.pick hn (by omega) ((W : Int) - x) (by omega) (by omega)).mono ?_
        rintro e w8 ⟨wd, hwd, rfl, D8⟩
        clear D7
        go_wp2_with fail
        refine (D8.pick hn (by omega) ((H : Int) - y) (by omega) (by omega)).mono ?_
        rintro e w9 ⟨ht, hht, rfl, D9⟩
        clear D8
        go_wp2_with fail
        refine (D9.one hn (by omega) 3 (by decide) (by decide)).mono ?_
        rintro e w10 ⟨bl, rfl, D10⟩
        clear D9
        go_wp2_with fail
        go_loopw [109] (fun v wr => ∃ k : Nat, k ≤ W * H ∧ v = .int .i64 k ∧ DrawInvG B w s A n c l w.heap.size (w.heap.size + 1) (W * H) (i + 301 + 5 * (3 - q) + 5) wr) (fun v _ => W * H - (intOf v).toNat)
        case atStart => exact ⟨0, Nat.zero_le _, rfl, D10⟩
        case round =>
          obtain ⟨k, hk, rfl, D⟩ := hrel
          clear D10
          by_cases hlt : k < W * H
          · have i1 : (k : Int) < ((W * H : Nat) : Int) := by omega
            have i2 : (0 : Int) ≤ (k : Int) := by omega
            have iW : (W : Int) ≠ 0 := by omega
            obtain ⟨⟨u, cu⟩, fu⟩ := D.cells hlt
            have D3 := Lib.hid (D.put k (!bl))
            have D4 := Lib.hid D
            clear D
            go_wp2_with fail
            refine (inS_exG _ _ _ _).mono ?_
            rintro e w11 ⟨b1, rfl, rfl⟩
            cases b1
            · go_wp2_with fail
              go_roundw
              case rel => exact ⟨k + 1, by omega, by go_num, D4.out⟩
              case measure => simp [intOf]; omega
            · go_wp2_with fail
              refine (inS_exG _ _ _ _).mono ?_
              rintro e w12 ⟨b2, rfl, rfl⟩
              cases b2
              · go_wp2_with fail
                go_roundw
                case rel => exact ⟨k + 1, by omega, by go_num, D4.out⟩
                case measure => simp [intOf]; omega
              · go_wp2_with fail
                go_roundw
                case rel => exact ⟨k + 1, by omega, by go_num, D3.out⟩
                case measure => simp [intOf]; omega
          · obtain rfl : k = W * H := by omega
            go_wp2_with fail
            go_roundw
            case rel => exact ⟨q - 1, by omega, by simp; omega, D.le (by omega)⟩
            case measure => simp [intOf]; omega
end Go.Proofs.YtgbciimfpahekaaDoor

namespace Go.Proofs.YtgbciimfpahekaaDoor
open Go.RowKit

set_option maxRecDepth 100000 in
set_option maxHeartbeats 2000000 in
theorem drawSizedG_any (B s : Nat) (A : Option Addr) (n c i : Nat) (l : List Int) (W H most : Nat) (w : World) (hS : Src B w s A n c l i) (hn : n ≤ maxLen) (hi : i ≤ 900000) (hW0 : 0 < W) (hW : W ≤ 16) (hH : H ≤ 16) (hm : most ≤ 98) :
    Calls Tryd.prog 48 #[.pointer (some ⟨s, 0, none⟩), .int .i64 W, .int .i64 H, .int .i64 most] w fun e w' => ∃ A' c' vs O, e = .returned (.agg #[.slice A' H c']) ∧ (∀ i, i < W * H → 0 ≤ O i ∧ O i ≤ 99) ∧ MatAt w' w.heap.size w'.heap.size A' c' vs (gO O W H) ∧ Chg (fun b => b = s ∨ w.heap.size ≤ b) w w' ∧ ∃ j, j ≤ i + 600 ∧ Src B w' s A n c l j := by
  have hWH : W * H ≤ 256 := Nat.le_trans (Nat.mul_le_mul hW hH) (by decide)
  have R0 : Blk ((w.alloc (.cells #[.slice none 0 0] 83)).alloc (.cells #[] 2)) w.heap.size 83 #[.slice none 0 0] := (Blk.made _ _ _).more _
  have hrow0 := World.ownsRow_lit (e := 2) (size := 1) (w.alloc (.cells #[.slice none 0 0] 83)) #[] 0 (Nat.le_refl _) (by decide) rfl
  simp only [World.size_alloc] at hrow0
  have BB : Below w.heap.size w ((w.alloc (.cells #[.slice none 0 0] 83)).alloc (.cells #[] 2)) := Ext.more (Ext.more (Ext.refl _) _) _
  have S1 := hS.ext BB
  have C1 : Chg (fun b => b = s ∨ w.heap.size ≤ b) w ((w.alloc (.cells #[.slice none 0 0] 83)).alloc (.cells #[] 2)) := (Chg.of_below BB).mono (fun b h => .inr h)
  have sl := hS.at_.le
  have sh := hS.high
  have jn : IntKind.i64.wrap ((W : Int) * H) = ((W * H : Nat) : Int) := by rw [show (W : Int) * H = ((W * H : Nat) : Int) by simp]; exact IntWalk.i64_in _ (by omega)
  have jm : IntKind.i64.wrap ((most : Int) + 1) = ((most + 1 : Nat) : Int) := by rw [show (most : Int) + 1 = ((most + 1 : Nat) : Int) by simp]; exact IntWalk.i64_in _ (by omega)
  have z0 : ((w.alloc (.cells #[.slice none 0 0] 83)).alloc (.cells #[] 2)).heap.size = w.heap.size + 2 := by simp
  clear hS BB
  go_enter Tryd.func48, Tryd.ntmps48
  go_wp2_with fail
  generalize (w.alloc (.cells #[.slice none 0 0] 83)).alloc (.cells #[] 2) = w1 at *
  refine (one_any B s A n c i l 2 (by decide) (by decide) w1 S1 hn (by omega)).mono ?_
  rintro e w2 ⟨⟨calm, rfl⟩, ⟨j, hj, S2⟩, ho⟩
  have R2 := ho.blk R0 (fun e => by omega)
  have O2 := ho.own hrow0 (fun g hg e => by have := (hrow0.lt g hg).1; omega)
  have C2 := C1.trans (ho.mono (fun b hb => .inl hb))
  clear S1 R0 hrow0 C1 ho z0
  go_wp2_with fail
  go_loopw [9, 11, 12] (fun v iv _ wr => ∃ (k gb cb j : Nat) (ns : List Int), k ≤ W * H ∧ iv = .int .i64 k ∧ v = .slice (some ⟨gb, 0, none⟩) k cb ∧ ns.length = k ∧ (∀ m ∈ ns, 0 ≤ m ∧ m ≤ 99) ∧ Blk wr w.heap.size 83 #[.slice none 0 0] ∧
    wr.ownsRow (w.heap.size + 1) 2 1 (.slice (some ⟨gb, 0, none⟩) k cb) k (ints ns) ∧ j ≤ i + 10 + 2 * k ∧ Src B wr s A n c l j ∧ Chg (fun b => b = s ∨ w.heap.size ≤ b) w wr) (fun _ iv _ _ => W * H - (intOf iv).toNat)
  case atStart => exact ⟨0, _, 0, j, [], Nat.zero_le _, rfl, rfl, rfl, by simp, R2, O2, by omega, S2, C2⟩
  case round =>
    obtain ⟨k, gb, cb, j2, ns, hk, rfl, rfl, hnl, hns, hR, hown, hj2, hS2, hC⟩ := hrel
    clear R2 O2 S2 C2
    by_cases hlt : k < W * H
    · go_wp2_with fail
      refine (pick_any B s A n c j2 l ((most + 1 : Nat) : Int) (by omega) (by omega) wr hS2 hn (by omega)).mono ?_
      rintro e w3 ⟨⟨k3, hk3, rfl⟩, ⟨j3, hj3, S3⟩, ho⟩
      have R3 := ho.blk hR (fun e => by omega)
      have O3 := ho.own hown (fun g hg e => by have := (hown.lt g hg).1; omega)
      have C3 := hC.trans (ho.mono (fun b hb => .inl hb))
      have hk4 : (k3 : Int) ≤ 99 := by omega
      clear hS2 hR hown hC ho hk3
      go_upto_region 7 with fail
      go_cut [36] (fun s36 wx => ∃ (t : Bool) (j4 : Nat), s36 = .bool t ∧ (t = true → 0 < k) ∧ j4 ≤ i + 10 + 2 * (k + 1) ∧ Blk wx w.heap.size 83 #[.slice none 0 0] ∧
        wx.ownsRow (w.heap.size + 1) 2 1 (.slice (some ⟨gb, 0, none⟩) k cb) k (ints ns) ∧ Src B wx s A n c l j4 ∧ Chg (fun b => b = s ∨ w.heap.size ≤ b) w wx)
      case first =>
        cases calm
        · go_wp2_with fail
          go_meet
          exact ⟨false, j3, rfl, by simp, by omega, R3, O3, S3, C3⟩
        · by_cases hk0 : k = 0
          · have t0 : ¬ ((0 : Int) < (k : Int)) := by omega
            clear hk0
            go_wp2_with fail
            go_meet
            exact ⟨false, j3, rfl, by simp, by omega, R3, O3, S3, C3⟩
          · have t0 : (0 : Int) < (k : Int) := by omega
            go_wp2_with fail
            refine (one_any B s A n c j3 l 3 (by decide) (by decide) w3 S3 hn (by omega)).mono ?_
            rintro e w4 ⟨⟨b, rfl⟩, ⟨j4, hj4, S4⟩, ho⟩
            have R4 := ho.blk R3 (fun e => by omega)
            have O4 := ho.own O3 (fun g hg e => by have := (O3.lt g hg).1; omega)
            have C4 := C3.trans (ho.mono (fun b hb => .inl hb))
            go_wp2_with fail
            go_meet
            exact ⟨!b, j4, rfl, fun _ => by omega, by omega, R4, O4, S4, C4⟩
      case rest =>
        obtain ⟨t, j4, rfl, ht, hj4, R4, O4, S4, C4⟩ := hcut
        obtain ⟨w4, rfl⟩ : ∃ w4 : World, w4 = wc := ⟨_, rfl⟩
        clear R3 O3 S3 C3
        have gl := O4.lt gb rfl
        cases t
        case' false =>
          obtain ⟨v, hv⟩ : ∃ v : Int, v = k3 := ⟨_, rfl⟩
          have vb : 0 ≤ v ∧ v ≤ 99 := by omega
          rw [← hv]
          clear hv hk4
          go_upto_region 9 with fail
        case' true =>
          have hk0 := ht rfl
          obtain ⟨v, hv⟩ : ∃ v : Int, ns[k - 1] = v := ⟨_, rfl⟩
          have vb : 0 ≤ v ∧ v ≤ 99 := by rw [← hv]; exact hns _ (List.getElem_mem _)
          have cv : w4.cell? ⟨gb, k - 1, none⟩ = some (.int .i64 v) := by
            rw [O4.cellAt (k - 1) (by omega), ← hv]; simp [ints, show k - 1 < ns.length by omega]
          obtain ⟨k1, hk1⟩ : ∃ k1, k1 = k - 1 := ⟨_, rfl⟩
          have jk : IntKind.i64.wrap ((k : Int) - 1) = (k1 : Int) := by rw [hk1, show (k : Int) - 1 = ((k - 1 : Nat) : Int) by omega]; exact IntWalk.i64_in _ (by omega)
          have q0 : (0 : Int) ≤ (k1 : Int) := by omega
          have q1 : (k1 : Int) < (k : Int) := by omega
          rw [← hk1] at cv
          clear hv hk4 hk1
          go_upto_region 9 with fail
        all_goals
          have hsz := C4.size
          have hl4 : w.heap.size < w4.heap.size := R4.lt
          have S5 := Lib.hid (S4.ext (Ext.more (Ext.refl _) (.cells #[.int .i64 v] 2)))
          have C5 := Lib.hid (C4.trans ((Chg.of_below (Ext.more (Ext.refl w4) (.cells #[.int .i64 v] 2))).mono (fun b hb => .inr (by omega))))
          have R5 := Lib.hid (R4.more (.cells #[.int .i64 v] 2))
          clear S4 C4
          go_wp2_with (at_builtin; refine wpList_app intT (by rfl) _ _ (by rfl) (w.heap.size + 1) (.slice (some ⟨gb, 0, none⟩) k cb) k (ints ns) (by rfl) (O4.alloc _) w4.heap.size #[.int .i64 v] (by rfl) (heap_alloc_new _ _) rfl (by simp [Value.oneCell']) (by omega) (by simp; omega) ?_; intro g3 cap3 w8 hown3 hgrow3 hat3 hlt3)
          have gC : Chg (fun b => w.heap.size ≤ b) (w4.alloc (.cells #[.int .i64 v] 2)) w8 := Chg.of_grown hgrow3 (fun z hz => by have := Option.some.inj (show some gb = some z from hz); omega)
          have S9 := S5.out.grown hgrow3 (fun e => by have := Option.some.inj (show some s = some gb from e); omega) (fun z hz => by have := Option.some.inj (show some gb = some z from hz); omega) (by simp; omega)
          have R9 := R5.out.by_grown hgrow3 (fun e => by have := Option.some.inj (show some w.heap.size = some gb from e); omega)
          go_roundw
          case rel =>
            refine ⟨k + 1, g3, cap3, j4, ns ++ [v], by omega, by go_num, rfl, by simp [hnl], fun m hm => ?_, R9, by simpa [ints] using hown3, by omega, S9, C5.out.trans (gC.mono fun b hb => .inr hb)⟩
            rcases List.mem_append.1 hm with h | h
            · exact hns m h
            · simp at h; subst h; exact vb
          case measure => simp [intOf]; omega
    · obtain rfl : k = W * H := by omega
      have RW := Lib.hid (rowsC_any W H (W * H) gb cb (fun i => ns.getD i 0) wr hW0 hW hH rfl (own_cap hown) (hown.lt gb rfl).2 (fun j hj => by rw [hown.cellAt j (by omega)]; simp [ints, List.getD_eq_getElem?_getD, show j < ns.length by omega]))
      have hb : ∀ i, i < W * H → 0 ≤ ns.getD i 0 ∧ ns.getD i 0 ≤ 99 := fun i hi => by
        rw [List.getD_eq_getElem?_getD, List.getElem?_eq_getElem (by omega), Option.getD_some]; exact hns _ (List.getElem_mem _)
      have hl4 : w.heap.size < wr.heap.size := hR.lt
      have zC := hC.size
      have HS2 := Lib.hid hS2
      clear hS2 hown
      go_wp2_with fail
      refine RW.out.mono ?_
      rintro e w5 ⟨A5, c5, vs5, rfl, hm5, hb5⟩
      have R5 := hR.under hb5 hR.lt
      have c0 := R5.cell 0
      have f0 := R5.free 0
      have cs := (R5.store 0 (.slice A5 H c5)).cell 0
      simp at c0 cs
      have hz : (w5.setCell ⟨w.heap.size, 0, none⟩ (.slice A5 H c5)).heap.size = w5.heap.size := by simp [World.setCell]
      have MR := Lib.hid ((hm5.beside R5 (by decide) (by decide) 0 (.slice A5 H c5)).low (lo' := w.heap.size) (hi' := (w5.setCell ⟨w.heap.size, 0, none⟩ (.slice A5 H c5)).heap.size) (by omega) (by rw [hz]; exact Nat.le_refl _))
      clear hz
      have CC := Lib.hid ((hC.trans ((Chg.of_below hb5).mono (fun b h => .inr (by omega)))).store (p := ⟨w.heap.size, 0, none⟩) (.inr (Nat.le_refl _)) (.slice A5 H c5))
      clear hm5 RW
      go_wp2_with fail
      refine bodyPost_ret (v := .agg #[.slice A5 H c5]) (by simp [results, Tryd.results48, go_sem, cs]) rfl ⟨A5, c5, vs5, _, rfl, hb, MR.out, CC.out, j2, by omega, (HS2.out.ext hb5).other (p := ⟨w.heap.size, 0, none⟩) (by show B ≤ w.heap.size; omega) (by show s ≠ w.heap.size; omega) _⟩
end Go.Proofs.YtgbciimfpahekaaDoor

namespace Go.Proofs.YtgbciimfpahekaaDoor
open Go.RowKit Go.Shelf

/-- A piece of a line: no byte 10, and so many bytes at most. -/
def PcOk (k : Nat) (s : ByteArray) : Prop := (10 : UInt8) ∉ bl s ∧ s.size ≤ k
theorem bl_add (s t : ByteArray) : bl (s ++ t) = bl s ++ bl t := by simp [bl]
theorem PcOk.add {a b : Nat} {s t : ByteArray} (h : PcOk a s) (k : PcOk b t) : PcOk (a + b) (s ++ t) := by
  refine ⟨?_, ?_⟩
  · rw [bl_add]
    intro hm
    rcases List.mem_append.1 hm with x | x
    · exact h.1 x
    · exact k.1 x
  · have := h.2
    have := k.2
    rw [ByteArray.size_append]
    omega
theorem PcOk.le {a b : Nat} {s : ByteArray} (h : PcOk a s) (hab : a ≤ b) : PcOk b s := ⟨h.1, Nat.le_trans h.2 hab⟩
instance (k : Nat) (s : ByteArray) : Decidable (PcOk k s) := inferInstanceAs (Decidable (_ ∧ _))
theorem PcOk.itoa (n : Int) (h0 : -99 ≤ n) (h1 : n ≤ 99) : PcOk 3 ⟨(Lib.itoa n).toArray⟩ := by
  have key : ∀ m : Nat, m ≤ 198 → PcOk 3 ⟨(Lib.itoa ((m : Int) - 99)).toArray⟩ := by decide +kernel
  have := key (n + 99).toNat (by omega)
  rwa [show (((n + 99).toNat : Nat) : Int) - 99 = n by omega] at this

/-- The source has turned, and memory was made. -/
def Tm (s : Nat) (w w' : World) : Prop := Chg (fun b => b = s ∨ w.heap.size ≤ b) w w'
theorem Tm.refl (s : Nat) (w : World) : Tm s w w := Chg.refl _ _
theorem Tm.trans {s : Nat} {a b c : World} (h : Tm s a b) (k : Tm s b c) : Tm s a c :=
  Chg.trans h (Chg.mono k fun _ hb => hb.elim .inl fun e => .inr (Nat.le_trans h.size e))
theorem Tm.one {s : Nat} {a b : World} (h : One s a b) : Tm s a b := Chg.mono h fun _ e => .inl e
theorem Tm.of {s : Nat} {a b : World} (h : Below a.heap.size a b) : Tm s a b := (Chg.of_below h).mono fun _ e => .inr e
theorem Tm.out {s : Nat} {a b : World} (h : Tm s a b) (hs : a.heap.size ≤ s) : Below a.heap.size a b := Chg.below h (fun k e => by rcases e with rfl | e <;> omega) (Nat.le_refl _)
/-- What a turn keeps: a list of cells beside the source. -/
def RdN (w : World) (s : Nat) (G : Option Addr) (rows : List ByteArray) : Prop := 0 < rows.length → ∃ g, G = some ⟨g, 0, none⟩ ∧ g ≠ s ∧ g < w.heap.size ∧ ∀ i (h : i < rows.length), w.cell? ⟨g, i, none⟩ = some (.string rows[i])
theorem RdN.tm {w w' : World} {s : Nat} {G : Option Addr} {rows : List ByteArray} (h : RdN w s G rows) (t : Tm s w w') : RdN w' s G rows := by
  intro hn
  obtain ⟨g, e, hg, hlt, hc⟩ := h hn
  exact ⟨g, e, hg, Nat.lt_of_lt_of_le hlt t.size, fun i hi => (t.cell (p := ⟨g, i, none⟩) hlt (by rintro (e | e) <;> simp at e <;> omega)).trans (hc i hi)⟩
theorem RdN.made {w : World} {s : Nat} (hs : s < w.heap.size) (rows : List ByteArray) (cs : Array Value) (hcs : cs.toList = strs rows) (t : TypeId) : RdN (w.alloc (.cells cs t)) s (some ⟨w.heap.size, 0, none⟩) rows := by
  intro _
  refine ⟨_, rfl, by omega, by simp, fun i hi => ?_⟩
  rw [(Blk.made w t cs).cell i, ← Array.getElem?_toList, hcs]
  simp [strs, hi]
set_option maxHeartbeats 400000 in
theorem text_any (B s : Nat) (A : Option Addr) (n c i : Nat) (l : List Int) (G : Option Addr) (d : Nat) (rows : List ByteArray) (w : World) (h : Src B w s A n c l i) (hn : n ≤ maxLen) (hi : i ≤ 1000000) (hr : RdN w s G rows) (h1 : 1 ≤ rows.length) (h2 : rows.length ≤ 200) :
    Calls Tryd.prog 45 #[.pointer (some ⟨s, 0, none⟩), .slice G rows.length d] w fun e w' => (∃ r, r ∈ rows ∧ e = .returned (.string r)) ∧ (∃ j, j ≤ i + 1 ∧ Src B w' s A n c l j) ∧ One s w w' := by
  obtain ⟨g, rfl, hg, hlt, hc⟩ := hr (by omega)
  have PK := Lib.hid (pick_any B s A n c i l (rows.length : Int) (by omega) (by omega) w h hn hi)
  have HC : Hid (∀ k w', k < rows.length → One s w w' → w'.cell? ⟨g, k, none⟩ = some (.string (rows.getD k ByteArray.empty)) ∧ rows.getD k ByteArray.empty ∈ rows) := fun k w' hk ho => by
    have e : rows.getD k ByteArray.empty = rows[k] := by simp [hk]
    rw [e]
    exact ⟨(Chg.cell ho (p := ⟨g, k, none⟩) hlt hg).trans (hc k hk), List.getElem_mem _⟩
  clear hc h
  obtain ⟨m, hm⟩ : ∃ m, rows.length = m := ⟨_, rfl⟩
  rw [hm] at PK h1 h2 ⊢
  have HM := Lib.hid hm
  clear hm
  go_enter Tryd.func45, Tryd.ntmps45
  go_wp2_with fail
  refine PK.out.mono ?_
  rintro e w' ⟨⟨k, hk, rfl⟩, hj, ho⟩
  obtain ⟨c1, hmem⟩ := HC.out k w' (by have := HM.out; omega) ho
  have HH := Lib.hid (And.intro hj ho)
  have HMM := Lib.hid hmem
  generalize rows.getD k ByteArray.empty = r at *
  have i0 : (0 : Int) ≤ (k : Int) := by omega
  clear hj ho hmem
  go_wp2_with fail
  go_ret
  exact ⟨⟨r, HMM.out, rfl⟩, HH.out⟩
set_option maxHeartbeats 1000000 in
theorem ltext_any (G : Option Addr) (d : Nat) (ns : List Int) (w : World) (h : Rd w G (ints ns)) (h0 : 1 ≤ ns.length) (hn : ns.length ≤ 16) (hb : ∀ m ∈ ns, 0 ≤ m ∧ m ≤ 99) :
    Calls Tryd.prog 58 #[.slice G ns.length d] w fun e w' => ∃ r, e = .returned (.string r) ∧ PcOk (4 * ns.length) r ∧ Below w.heap.size w w' := by
  obtain ⟨g, rfl, hg, hc⟩ := h (by simp [ints]; omega)
  have HC : Hid (∀ k V, k < ns.length → Below w.heap.size w V → V.cell? ⟨g, k, none⟩ = some (.int .i64 (ns.getD k 0)) ∧ 0 ≤ ns.getD k 0 ∧ ns.getD k 0 ≤ 99) := fun k V hk hV => by
    have e : ns.getD k 0 = ns[k] := by simp [hk]
    rw [e]
    exact ⟨(hV.cell (p := ⟨g, k, none⟩) hg).trans (by rw [hc k (by simpa [ints] using hk)]; simp [ints]), hb _ (List.getElem_mem _)⟩
  clear hc h hb
  obtain ⟨m, hm⟩ : ∃ m, ns.length = m := ⟨_, rfl⟩
  rw [hm] at h0 hn HC ⊢
  clear hm
  obtain ⟨c0, z0, z1⟩ := HC.out 0 w (by omega) (Ext.refl _)
  generalize ns.getD 0 0 = x0 at *
  have D0 := Lib.hid (decS_any x0 w (by omega) (by omega))
  have P0 := Lib.hid (PcOk.itoa x0 (by omega) z1)
  have t0 : ¬ (m : Int) = 0 := by omega
  have t1 : (0 : Int) < (m : Int) := by omega
  go_enter Tryd.func58, Tryd.ntmps58
  go_wp2_with fail
  refine D0.out.mono ?_
  rintro e w1 ⟨rfl, hb1⟩
  go_wp2_with fail
  go_loopw [3, 4] (fun ov iv wr => ∃ (k : Nat) (r : ByteArray), 1 ≤ k ∧ k ≤ m ∧ iv = .int .i64 k ∧ ov = .string r ∧ PcOk (4 * k) r ∧ Below w.heap.size w wr) (fun _ iv _ => m - (intOf iv).toNat)
  case atStart => exact ⟨1, _, Nat.le_refl _, h0, rfl, rfl, P0.out.le (by omega), hb1⟩
  case round =>
    obtain ⟨k, r, hk1, hk, rfl, rfl, hr, hb⟩ := hrel
    clear hb1
    by_cases hlt : k < m
    · obtain ⟨c1, y0, y1⟩ := HC.out k wr hlt hb
      generalize ns.getD k 0 = x at *
      have D1 := Lib.hid (fun V => decS_any x V (by omega) (by omega))
      have P1 := PcOk.itoa x (by omega) y1
      have hr2 := hr.2
      have hp2 := P1.2
      have NX := Lib.hid (hr.add ((show PcOk 1 (ByteArray.mk #[44]) by decide).add P1))
      generalize (ByteArray.mk (Lib.itoa x).toArray) = q at *
      have t2 : ¬ 9223372036854775807 < 1 + q.size := by omega
      have t3 : ¬ 9223372036854775807 < r.size + (1 + q.size) := by omega
      have i0 : (0 : Int) ≤ (k : Int) := by omega
      have i1 : (k : Int) < (m : Int) := by omega
      clear hr P1
      go_wp2_with fail
      refine (D1.out _).mono ?_
      rintro e w2 ⟨rfl, hb2⟩
      have B2 := Ext.then_ hb hb2
      go_wp2_with fail
      go_roundw
      case rel => exact ⟨k + 1, _, by omega, by omega, by go_num, rfl, NX.out.le (by omega), B2⟩
      case measure => simp [intOf]; omega
    · obtain rfl : k = m := by omega
      go_wp2_with fail
      go_ret
      exact ⟨_, rfl, hr, hb⟩
set_option maxHeartbeats 1000000 in
theorem ptext_any (p : Nat) (A : Option Addr) (c : Nat) (rows : List ByteArray) (w : World) (_ : p < w.heap.size) (hc : w.cell? ⟨p, 0, none⟩ = some (.slice A rows.length c)) (hr : Rd w A (strs rows)) (h0 : 1 ≤ rows.length) (hn : rows.length ≤ 16) (hb : ∀ r ∈ rows, PcOk 16 r) :
    Calls Tryd.prog 47 #[.pointer (some ⟨p, 0, none⟩)] w fun e w' => ∃ r, e = .returned (.string r) ∧ PcOk (17 * rows.length) r ∧ w = w' := by
  obtain ⟨g, rfl, hg, hx⟩ := hr.str (by omega)
  have HC : Hid (∀ k, k < rows.length → w.cell? ⟨g, k, none⟩ = some (.string (rows.getD k ByteArray.empty)) ∧ PcOk 16 (rows.getD k ByteArray.empty)) := fun k hk => by
    have e : rows.getD k ByteArray.empty = rows[k] := by simp [hk]
    rw [e]
    exact ⟨hx k hk, hb _ (List.getElem_mem _)⟩
  clear hx hr hb
  obtain ⟨m, hm⟩ : ∃ m, rows.length = m := ⟨_, rfl⟩
  rw [hm] at h0 hn HC hc ⊢
  clear hm
  obtain ⟨c0, z0⟩ := HC.out 0 (by omega)
  generalize rows.getD 0 ByteArray.empty = x0 at *
  have P0 := Lib.hid z0
  have t1 : (0 : Int) < (m : Int) := by omega
  clear z0
  go_enter Tryd.func47, Tryd.ntmps47
  go_wp2_with fail
  go_loop [3, 4] (fun ov iv => ∃ (k : Nat) (r : ByteArray), 1 ≤ k ∧ k ≤ m ∧ iv = .int .i64 k ∧ ov = .string r ∧ PcOk (17 * k) r) (fun _ iv => m - (intOf iv).toNat)
  case atStart => exact ⟨1, _, Nat.le_refl _, h0, rfl, rfl, P0.out.le (by omega)⟩
  case round =>
    obtain ⟨k, r, hk1, hk, rfl, rfl, hr⟩ := hrel
    by_cases hlt : k < m
    · obtain ⟨c1, P1⟩ := HC.out k hlt
      generalize rows.getD k ByteArray.empty = q at *
      have hr2 := hr.2
      have hp2 := P1.2
      have NX := Lib.hid (hr.add ((show PcOk 1 (ByteArray.mk #[47]) by decide).add P1))
      have t2 : ¬ 9223372036854775807 < 1 + q.size := by omega
      have t3 : ¬ 9223372036854775807 < r.size + (1 + q.size) := by omega
      have i0 : (0 : Int) ≤ (k : Int) := by omega
      have i1 : (k : Int) < (m : Int) := by omega
      clear hr P1
      go_wp2_with fail
      go_round
      case rel => exact ⟨k + 1, _, by omega, by omega, by go_num, rfl, NX.out.le (by omega)⟩
      case measure => simp [intOf]; omega
    · obtain rfl : k = m := by omega
      go_wp2_with fail
      go_ret
      exact ⟨_, rfl, hr, rfl⟩
set_option maxHeartbeats 1000000 in
theorem gtext_any (p : Nat) (A : Option Addr) (c : Nat) (rows : List (List Int)) (w : World) (hp : p < w.heap.size) (hc : w.cell? ⟨p, 0, none⟩ = some (.slice A rows.length c)) (hr : MatRd w A rows) (h0 : 1 ≤ rows.length) (hn : rows.length ≤ 16) (hz : ∀ r ∈ rows, 1 ≤ r.length ∧ r.length ≤ 4) (hb : ∀ r ∈ rows, ∀ m ∈ r, 0 ≤ m ∧ m ≤ 99) :
    Calls Tryd.prog 49 #[.pointer (some ⟨p, 0, none⟩)] w fun e w' => ∃ r, e = .returned (.string r) ∧ PcOk (17 * rows.length) r ∧ Below w.heap.size w w' := by
  obtain ⟨g, rfl, hg, hx⟩ := hr (by omega)
  have HC : Hid (∀ k V, k < rows.length → Below w.heap.size w V → ∃ Ai li ci, V.cell? ⟨g, k, none⟩ = some (.slice Ai li ci) ∧ ∀ V2, Below w.heap.size w V2 → Calls Tryd.prog 58 #[.slice Ai li ci] V2 fun e w' => ∃ r, e = .returned (.string r) ∧ PcOk 16 r ∧ Below V2.heap.size V2 w') := fun k V hk hV => by
    obtain ⟨Ai, ci, h1, h2⟩ := hx k hk
    refine ⟨Ai, _, ci, (hV.cell (p := ⟨g, k, none⟩) hg).trans h1, fun V2 hV2 => ?_⟩
    obtain ⟨l0, l1⟩ := hz _ (List.getElem_mem hk)
    refine (ltext_any Ai ci rows[k] V2 ?_ l0 (by omega) (hb _ (List.getElem_mem hk))).mono fun e w' ⟨r, e1, e2, e3⟩ => ⟨r, e1, e2.le (by omega), e3⟩
    exact h2.ext hV2
  have HP : Hid (∀ V, Below w.heap.size w V → V.cell? ⟨p, 0, none⟩ = some (.slice (some ⟨g, 0, none⟩) rows.length c)) := fun V hV => (hV.cell (p := ⟨p, 0, none⟩) hp).trans hc
  clear hx hr hb hz
  obtain ⟨m, hm⟩ : ∃ m, rows.length = m := ⟨_, rfl⟩
  rw [hm] at h0 hn HC hc HP ⊢
  clear hm
  obtain ⟨A0, l0, d0, c0, D0⟩ := HC.out 0 w (by omega) (Ext.refl _)
  have D0 := Lib.hid D0
  have t1 : (0 : Int) < (m : Int) := by omega
  go_enter Tryd.func49, Tryd.ntmps49
  go_wp2_with fail
  refine (D0.out _ (Ext.refl _)).mono ?_
  rintro e w1 ⟨r0, rfl, P0, hb1⟩
  have P0 := Lib.hid P0
  clear c0 D0 hc
  go_wp2_with fail
  go_loopw [3, 4] (fun ov iv wr => ∃ (k : Nat) (r : ByteArray), 1 ≤ k ∧ k ≤ m ∧ iv = .int .i64 k ∧ ov = .string r ∧ PcOk (17 * k) r ∧ Below w.heap.size w wr) (fun _ iv _ => m - (intOf iv).toNat)
  case atStart => exact ⟨1, _, Nat.le_refl _, h0, rfl, rfl, P0.out.le (by omega), hb1⟩
  case round =>
    obtain ⟨k, r, hk1, hk, rfl, rfl, hr, hb⟩ := hrel
    clear hb1
    have cp := HP.out wr hb
    by_cases hlt : k < m
    · obtain ⟨A1, l1, d1, c1, D1⟩ := HC.out k wr hlt hb
      have D1 := Lib.hid D1
      have HR := Lib.hid hr
      have HB := Lib.hid hb
      have i0 : (0 : Int) ≤ (k : Int) := by omega
      have i1 : (k : Int) < (m : Int) := by omega
      have hr2 := hr.2
      clear hr hb
      go_wp2_with fail
      refine (D1.out _ HB.out).mono ?_
      rintro e w2 ⟨q, rfl, P1, hb2⟩
      have hp2 := P1.2
      have NX := Lib.hid (HR.out.add ((show PcOk 1 (ByteArray.mk #[47]) by decide).add P1))
      have t2 : ¬ 9223372036854775807 < 1 + q.size := by omega
      have t3 : ¬ 9223372036854775807 < r.size + (1 + q.size) := by omega
      have B2 := Ext.then_ HB.out hb2
      clear P1
      go_wp2_with fail
      go_roundw
      case rel => exact ⟨k + 1, _, by omega, by omega, by go_num, rfl, NX.out.le (by omega), B2⟩
      case measure => simp [intOf]; omega
    · obtain rfl : k = m := by omega
      go_wp2_with fail
      go_ret
      exact ⟨_, rfl, hr, hb⟩
end Go.Proofs.YtgbciimfpahekaaDoor

namespace Go.Proofs.YtgbciimfpahekaaDoor
open Go.RowKit Go.Shelf

abbrev litN : List ByteArray := [⟨#[97]⟩, ⟨#[98]⟩, ⟨#[110, 105, 120]⟩, ⟨#[]⟩]
theorem litN_ok : ∀ r ∈ litN, PcOk 3 r := by decide +kernel
abbrev litF : List ByteArray := [⟨#[97]⟩, ⟨#[98]⟩, ⟨#[110, 101, 119]⟩, ⟨#[120]⟩, ⟨#[108, 101, 97, 102]⟩, ⟨#[81]⟩]
theorem litF_ok : ∀ r ∈ litF, PcOk 4 r := by decide +kernel
abbrev lit0 : List ByteArray := [⟨#[]⟩, ⟨#[119, 104, 97, 116]⟩, ⟨#[115, 101, 116]⟩, ⟨#[115, 101, 116, 32, 97]⟩, ⟨#[115, 101, 116, 32, 97, 32, 120]⟩, ⟨#[115, 101, 116, 32, 97, 32]⟩, ⟨#[115, 104, 111, 119]⟩, ⟨#[116, 117, 114, 110, 32, 98, 32, 97, 32, 52]⟩, ⟨#[111, 112, 101, 110, 32, 98, 32, 97, 32, 48]⟩, ⟨#[106, 111, 105, 110, 32, 98, 32, 97, 32, 97, 32, 52]⟩, ⟨#[115, 104, 105, 102, 116, 32, 98, 32, 97, 32, 49, 55, 32, 48]⟩, ⟨#[103, 114, 111, 119, 32, 98, 32, 97, 32, 45, 49]⟩, ⟨#[107, 101, 101, 112, 32, 98, 32, 97, 32, 120]⟩, ⟨#[119, 97, 116, 101, 114, 32, 49, 44, 50]⟩, ⟨#[119, 97, 116, 101, 114, 32]⟩, ⟨#[116, 114, 101, 101, 32, 32, 97]⟩, ⟨#[118, 97, 108, 108, 101, 121, 115, 32, 49, 47, 50, 44, 51]⟩]
theorem lit0_ok : ∀ r ∈ lit0, PcOk 14 r := by decide +kernel
abbrev lit2 : List ByteArray := [⟨#[115, 104, 111, 119, 32]⟩, ⟨#[100, 114, 111, 112, 32]⟩, ⟨#[98, 108, 97, 99, 107, 32]⟩, ⟨#[104, 111, 108, 101, 115, 32]⟩, ⟨#[101, 117, 108, 101, 114, 32]⟩, ⟨#[97, 114, 101, 97, 115, 32]⟩, ⟨#[99, 111, 100, 101, 32]⟩, ⟨#[116, 114, 101, 101, 32]⟩]
theorem lit2_ok : ∀ r ∈ lit2, PcOk 6 r := by decide +kernel
abbrev lit3 : List ByteArray := [⟨#[105, 110, 118, 101, 114, 116, 32]⟩, ⟨#[116, 104, 105, 110, 32]⟩, ⟨#[102, 105, 108, 108, 32]⟩]
theorem lit3_ok : ∀ r ∈ lit3, PcOk 7 r := by decide +kernel
abbrev lit4 : List ByteArray := [⟨#[116, 117, 114, 110, 32]⟩, ⟨#[111, 112, 101, 110, 32]⟩, ⟨#[99, 108, 111, 115, 101, 32]⟩, ⟨#[103, 114, 111, 119, 32]⟩, ⟨#[107, 101, 101, 112, 32]⟩]
theorem lit4_ok : ∀ r ∈ lit4, PcOk 6 r := by decide +kernel

/-- The names of a desk at a place. -/
def DkN (w : World) (s p : Nat) (names : List ByteArray) : Prop := ∃ G d, p ≠ s ∧ p < w.heap.size ∧ w.cell? ⟨p, 0, none⟩ = some (.slice G names.length d) ∧ RdN w s G names
theorem DkN.tm {w w' : World} {s p : Nat} {names : List ByteArray} (h : DkN w s p names) (t : Tm s w w') : DkN w' s p names := by
  obtain ⟨G, d, h1, h2, h3, h4⟩ := h
  exact ⟨G, d, h1, Nat.lt_of_lt_of_le h2 t.size, (t.cell (p := ⟨p, 0, none⟩) h2 (by rintro (e | e) <;> simp at e <;> omega)).trans h3, h4.tm t⟩
/-- Where a line's drawing stands. -/
structure LnSt (B : Nat) (w0 : World) (s : Nat) (A : Option Addr) (n c : Nat) (l : List Int) (p : Nat) (names : List ByteArray) (i : Nat) (w : World) : Prop where
  src : ∃ j, j ≤ i ∧ Src B w s A n c l j
  tm : Tm s w0 w
  dk : DkN w s p names
  hn : n ≤ maxLen
  hi : i ≤ 900000
  nl : names.length ≤ 200
  no : ∀ r ∈ names, PcOk 8 r
section
variable {B : Nat} {w0 : World} {s : Nat} {A : Option Addr} {n c : Nat} {l : List Int} {p : Nat} {names : List ByteArray} {i : Nat} {w : World}
theorem LnSt.le (h : LnSt B w0 s A n c l p names i w) : s < w.heap.size := by
  obtain ⟨j, _, hs⟩ := h.src
  exact hs.at_.le
theorem LnSt.on (h : LnSt B w0 s A n c l p names i w) {w' : World} (t : Tm s w w') {i' : Nat} (hs : ∃ j, j ≤ i' ∧ Src B w' s A n c l j) (hi : i' ≤ 900000) : LnSt B w0 s A n c l p names i' w' :=
  ⟨hs, h.tm.trans t, h.dk.tm t, h.hn, hi, h.nl, h.no⟩
theorem LnSt.ext (h : LnSt B w0 s A n c l p names i w) {w' : World} (hb : Below w.heap.size w w') : LnSt B w0 s A n c l p names i w' := by
  obtain ⟨j, hj, hs⟩ := h.src
  exact h.on (Tm.of hb) ⟨j, hj, hs.ext hb⟩ h.hi
theorem LnSt.alloc (h : LnSt B w0 s A n c l p names i w) (o : Obj) : LnSt B w0 s A n c l p names i (w.alloc o) := h.ext (Ext.more (Ext.refl _) _)
theorem LnSt.more (h : LnSt B w0 s A n c l p names i w) {i' : Nat} (hi : i ≤ i') (h9 : i' ≤ 900000) : LnSt B w0 s A n c l p names i' w := by
  obtain ⟨j, hj, hs⟩ := h.src
  exact h.on (Tm.refl _ _) ⟨j, by omega, hs⟩ h9
theorem LnSt.fresh (h : LnSt B w0 s A n c l p names i w) : LnSt B w s A n c l p names i w := ⟨h.src, Tm.refl _ _, h.dk, h.hn, h.hi, h.nl, h.no⟩
theorem LnSt.back {w' : World} {i' : Nat} (h : LnSt B w s A n c l p names i' w') (t : Tm s w0 w) : LnSt B w0 s A n c l p names i' w' := ⟨h.src, t.trans h.tm, h.dk, h.hn, h.hi, h.nl, h.no⟩
theorem LnSt.blk (h : LnSt B w0 s A n c l p names i w) {g : Nat} {t : TypeId} {cs : Array Value} (hB : Blk w0 g t cs) (hg : g ≠ s) : Blk w g t cs := Chg.blk h.tm hB (by have := hB.lt; rintro (e | e) <;> omega)
theorem LnSt.pick (h : LnSt B w0 s A n c l p names i w) (m : Int) (hm : 1 ≤ m) (hm2 : m ≤ 200) (hi : i < 899000) :
    Calls Tryd.prog 33 #[.pointer (some ⟨s, 0, none⟩), .int .i64 m] w fun e w' => ∃ k : Nat, (k : Int) < m ∧ e = .returned (.int .i64 k) ∧ LnSt B w0 s A n c l p names (i + 1) w' := by
  obtain ⟨j, hj, hs⟩ := h.src
  refine (pick_any B s A n c j l m hm hm2 w hs h.hn (by omega)).mono ?_
  rintro e w' ⟨⟨k, hk, rfl⟩, ⟨j', hj', hs'⟩, ho⟩
  exact ⟨k, hk, rfl, h.on (Tm.one ho) ⟨j', by omega, hs'⟩ (by omega)⟩
theorem LnSt.one (h : LnSt B w0 s A n c l p names i w) (m : Int) (hm : 1 ≤ m) (hm2 : m ≤ 200) (hi : i < 899000) :
    Calls Tryd.prog 51 #[.pointer (some ⟨s, 0, none⟩), .int .i64 m] w fun e w' => ∃ b : Bool, e = .returned (.bool b) ∧ LnSt B w0 s A n c l p names (i + 1) w' := by
  obtain ⟨j, hj, hs⟩ := h.src
  refine (one_any B s A n c j l m hm hm2 w hs h.hn (by omega)).mono ?_
  rintro e w' ⟨⟨k, rfl⟩, ⟨j', hj', hs'⟩, ho⟩
  exact ⟨k, rfl, h.on (Tm.one ho) ⟨j', by omega, hs'⟩ (by omega)⟩
theorem LnSt.text (h : LnSt B w0 s A n c l p names i w) (G : Option Addr) (d : Nat) (rows : List ByteArray) (hr : RdN w s G rows) (h1 : 1 ≤ rows.length) (h2 : rows.length ≤ 200) (hi : i < 899000) (k : Nat) (hk : ∀ r ∈ rows, PcOk k r) :
    Calls Tryd.prog 45 #[.pointer (some ⟨s, 0, none⟩), .slice G rows.length d] w fun e w' => ∃ r, PcOk k r ∧ e = .returned (.string r) ∧ LnSt B w0 s A n c l p names (i + 1) w' := by
  obtain ⟨j, hj, hs⟩ := h.src
  refine (text_any B s A n c j l G d rows w hs h.hn (by omega) hr h1 h2).mono ?_
  rintro e w' ⟨⟨r, hm, rfl⟩, ⟨j', hj', hs'⟩, ho⟩
  exact ⟨r, hk r hm, rfl, h.on (Tm.one ho) ⟨j', by omega, hs'⟩ (by omega)⟩
theorem LnSt.dec (h : LnSt B w0 s A n c l p names i w) (m : Int) (h0 : -99 ≤ m) (h1 : m ≤ 99) :
    Calls Tryd.prog 28 #[.int .i64 m] w fun e w' => ∃ r, PcOk 3 r ∧ e = .returned (.string r) ∧ LnSt B w0 s A n c l p names i w' :=
  (decS_any m w (by omega) (by omega)).mono fun _ _ ⟨e, hb⟩ => ⟨_, PcOk.itoa m h0 h1, e, h.ext hb⟩
end
set_option maxHeartbeats 1000000 in
theorem nameL_any {B : Nat} {w0 : World} {s : Nat} {A : Option Addr} {n c : Nat} {l : List Int} {p : Nat} {names : List ByteArray} {i : Nat} {w : World} (h : LnSt B w0 s A n c l p names i w) (hi : i + 10 < 899000) :
    Calls Tryd.prog 44 #[.pointer (some ⟨s, 0, none⟩), .pointer (some ⟨p, 0, none⟩)] w fun e w' => ∃ r, PcOk 8 r ∧ e = .returned (.string r) ∧ LnSt B w0 s A n c l p names (i + 2) w' := by
  obtain ⟨G, d, hp, hlt, hc, hr⟩ := h.dk
  have H := Lib.hid h
  have NO := Lib.hid h.no
  have nl := h.nl
  have hs := h.le
  clear h
  obtain ⟨m, hm⟩ : ∃ m, names.length = m := ⟨_, rfl⟩
  have HM := Lib.hid hm
  rw [hm] at hc nl
  clear hm hr
  by_cases h0 : m = 0
  · have t0 : ¬ (0 : Int) < (m : Int) := by omega
    clear h0
    go_enter Tryd.func44, Tryd.ntmps44
    go_wp2_with fail
    refine ((H.out.alloc _).text _ _ litN (RdN.made hs litN _ rfl _) (by decide) (by decide) (by omega) 8 (fun r hr => (litN_ok r hr).le (by decide))).mono ?_
    rintro e w1 ⟨r, hr, rfl, h1⟩
    have HH := Lib.hid (And.intro hr h1)
    clear hr h1
    go_wp2_with fail
    go_ret
    exact ⟨r, HH.out.1, rfl, HH.out.2.more (by omega) (by omega)⟩
  · have t0 : (0 : Int) < (m : Int) := by omega
    go_enter Tryd.func44, Tryd.ntmps44
    go_wp2_with fail
    refine (H.out.one 8 (by decide) (by decide) (by omega)).mono ?_
    rintro e w1 ⟨b, rfl, h1⟩
    clear hc hlt
    obtain ⟨G1, d1, _, hlt, hc, hr⟩ := h1.dk
    rw [HM.out] at hc
    have hs1 := h1.le
    have HR := Lib.hid hr
    have H1 := Lib.hid h1
    clear h1 hr
    cases b
    · go_wp2_with fail
      refine (HM.out ▸ (H1.out.text G1 d1 names HR.out (by have := HM.out; omega) H1.out.nl (by omega) 8 NO.out)).mono ?_
      rintro e w2 ⟨r, hr, rfl, h2⟩
      have HH := Lib.hid (And.intro hr h2)
      clear hr h2
      go_wp2_with fail
      go_ret
      exact ⟨r, HH.out.1, rfl, HH.out.2⟩
    · go_wp2_with fail
      refine ((H1.out.alloc _).text _ _ litN (RdN.made hs1 litN _ rfl _) (by decide) (by decide) (by omega) 8 (fun r hr => (litN_ok r hr).le (by decide))).mono ?_
      rintro e w2 ⟨r, hr, rfl, h2⟩
      have HH := Lib.hid (And.intro hr h2)
      clear hr h2
      go_wp2_with fail
      go_ret
      exact ⟨r, HH.out.1, rfl, HH.out.2⟩

theorem rowB_ok (L : List Bool) (W y k : Nat) : (10 : UInt8) ∉ rowB L W y k := fun h => by
  obtain ⟨x, _, hx⟩ := List.mem_map.1 h
  split at hx <;> cases hx
theorem rowS_ok (L : List Bool) (W H : Nat) (hW : W ≤ 16) : ∀ r ∈ rowsTo L W H, PcOk 16 r := fun r h => by
  obtain ⟨y, _, rfl⟩ := List.mem_map.1 h
  refine ⟨rowB_ok L W y W, ?_⟩
  have : (rowS L W y).size = W := by simp [rowS, ByteArray.size, rowB_length]
  omega
set_option maxHeartbeats 1000000 in
theorem drawOkL_any {B : Nat} {w0 : World} {s : Nat} {A : Option Addr} {n c : Nat} {l : List Int} {p : Nat} {names : List ByteArray} {i : Nat} {w : World} (h : LnSt B w0 s A n c l p names i w) (hi : i + 500 < 899000) :
    Calls Tryd.prog 46 #[.pointer (some ⟨s, 0, none⟩)] w fun e w' => ∃ A2 c2 L W H, e = .returned (.agg #[.slice A2 H c2]) ∧ 1 ≤ H ∧ H ≤ 16 ∧ W ≤ 16 ∧
      w'.ownsRow w.heap.size 9 1 (.slice A2 H c2) H (strs (rowsTo L W H)) ∧ LnSt B w0 s A n c l p names (i + 340) w' := by
  have R0 := Blk.made w 77 #[.slice none 0 0]
  have h1 := Lib.hid ((h.alloc (.cells #[.slice none 0 0] 77)).fresh)
  have T1 : Tm s w (w.alloc (.cells #[.slice none 0 0] 77)) := Tm.of (Ext.more (Ext.refl _) _)
  have hs := h.le
  have z0 : (w.alloc (.cells #[.slice none 0 0] 77)).heap.size = w.heap.size + 1 := by simp
  have HH := Lib.hid h
  clear h
  go_enter Tryd.func46, Tryd.ntmps46
  go_wp2_with fail
  generalize w.alloc (.cells #[.slice none 0 0] 77) = w1 at *
  refine (h1.out.pick 7 (by decide) (by decide) (by omega)).mono ?_
  rintro e w2 ⟨k, hk, rfl, h2⟩
  clear h1
  go_wp2_with fail
  refine (h2.pick 7 (by decide) (by decide) (by omega)).mono ?_
  rintro e w3 ⟨k2, hk2, rfl, h3⟩
  clear h2
  go_wp2_with fail
  refine (h3.one 20 (by decide) (by decide) (by omega)).mono ?_
  rintro e w4 ⟨b, rfl, h4⟩
  clear h3
  have R4 := h4.blk R0 (by omega)
  have T4 := T1.trans h4.tm
  obtain ⟨j, hj, S4⟩ := h4.src
  have hB := S4.high
  have DG := Lib.hid (fun (W H : Nat) (hW0 : 0 < W) (hW : W ≤ 16) (hH0 : 0 < H) (hH : H ≤ 16) => drawG_any B s A n c j l W H w4 S4 h4.hn (by omega) hW0 hW hH0 hH)
  clear h4 S4 R0 T1
  obtain ⟨W, hWd⟩ : ∃ W, k + 1 = W := ⟨_, rfl⟩
  obtain ⟨H, hHt⟩ : ∃ H, k2 + 1 = H := ⟨_, rfl⟩
  have e1 : (1 : Int) + (k : Int) = (W : Int) := by omega
  have e2 : (1 : Int) + (k2 : Int) = (H : Int) := by omega
  have w1 : 0 < W ∧ W ≤ 16 := by omega
  have w2 : 0 < H ∧ H ≤ 16 := by omega
  clear hWd hHt
  cases b
  case' false =>
    try rw [e1]
    try rw [e2]
    go_wp2_with fail
    try rw [e1]
    try rw [e2]
    refine (DG.out W H w1.1 w1.2 w2.1 w2.2).mono ?_
  case' true =>
    go_wp2_with fail
    refine (DG.out 16 16 (by decide) (by decide) (by decide) (by decide)).mono ?_
  all_goals
    rintro e w5 ⟨A6, c6, L, rfl, hL, own6, T6, j6, hj6, S6⟩
    have T6 : Tm s w4 w5 := T6
    have R5 := Chg.blk T6 R4 (by have := R4.lt; rintro (e | e) <;> omega)
    have hz4 := R4.lt
    have hz5 := R5.lt
    have f0 := R5.free 0
    have c0 := R5.cell 0
    simp at c0
    have T7 := Lib.hid (T4.trans T6)
    have S7 := Lib.hid S6
    have O7 := Lib.hid own6
    clear S6 own6 T6 DG
    first
      | (have chk : Hid (w5.ownsRow w4.heap.size 9 1 (.slice A6 H c6) H (strs (rowsTo L W H))) := O7
         clear chk
         have cs := (R5.store 0 (.slice A6 H c6)).cell 0
         simp at cs
         go_wp2_with fail
         refine bodyPost_ret (v := .agg #[.slice A6 H c6]) (by simp [results, Tryd.results46, go_sem, cs]) rfl ⟨A6, c6, L, W, H, rfl, by omega, by omega, by omega, ?_, ?_⟩)
      | (have cs := (R5.store 0 (.slice A6 16 c6)).cell 0
         simp at cs
         go_wp2_with fail
         refine bodyPost_ret (v := .agg #[.slice A6 16 c6]) (by simp [results, Tryd.results46, go_sem, cs]) rfl ⟨A6, c6, L, 16, 16, rfl, by omega, by omega, by omega, ?_, ?_⟩)
    · exact own_base (base' := w.heap.size) (base := w4.heap.size) (ownsRow_setCell_below O7.out (a := ⟨w.heap.size, 0, none⟩) (by show w.heap.size < w4.heap.size; omega) _) (by omega)
    · exact HH.out.on (Chg.store T7.out (p := ⟨w.heap.size, 0, none⟩) (.inr (Nat.le_refl _)) _) ⟨j6, by omega, S7.out.other (p := ⟨w.heap.size, 0, none⟩) (by show B ≤ w.heap.size; omega) (by show s ≠ w.heap.size; omega) _⟩ (by omega)


theorem gdrawL_any {B : Nat} {w0 : World} {s : Nat} {A : Option Addr} {n c : Nat} {l : List Int} {p : Nat} {names : List ByteArray} {i : Nat} {w : World} (h : LnSt B w0 s A n c l p names i w) (hi : i + 700 < 899000) (W : Nat) (h0 : 1 ≤ W) (h1 : W ≤ 4) :
    Calls Tryd.prog 48 #[.pointer (some ⟨s, 0, none⟩), .int .i64 W, .int .i64 3, .int .i64 6] w fun e w' => ∃ A2 c2 vs O lo hi2, e = .returned (.agg #[.slice A2 3 c2]) ∧ (∀ i, i < W * 3 → 0 ≤ O i ∧ O i ≤ 99) ∧ MatAt w' lo hi2 A2 c2 vs (gO O W 3) ∧ LnSt B w0 s A n c l p names (i + 600) w' := by
  obtain ⟨j, hj, hs⟩ := h.src
  refine (drawSizedG_any B s A n c j l W 3 6 w hs h.hn (by omega) h0 (by omega) (by decide) (by decide)).mono ?_
  rintro e w' ⟨A2, c2, vs, O, rfl, hO, hM, ht, j2, hj2, hs2⟩
  exact ⟨A2, c2, vs, O, _, _, rfl, hO, hM, h.on ht ⟨j2, by omega, hs2⟩ (by omega)⟩
theorem gO_val {O : Nat → Int} {W H : Nat} (h : ∀ i, i < W * H → 0 ≤ O i ∧ O i ≤ 99) : ∀ r ∈ gO O W H, r.length = W ∧ ∀ m ∈ r, 0 ≤ m ∧ m ≤ 99 := fun r hr => by
  obtain ⟨y, hy, rfl⟩ := List.mem_iff_getElem.1 hr
  have hy' : y < H := by rwa [gO_length] at hy
  rw [gO_row]
  refine ⟨by simp, fun m hm => ?_⟩
  obtain ⟨x, hx, rfl⟩ := List.mem_map.1 hm
  exact h _ (pl_lt (List.mem_range.1 hx) hy')
set_option maxHeartbeats 4000000 in
theorem lineL_any {B : Nat} {w0 : World} {s : Nat} {A : Option Addr} {n c : Nat} {l : List Int} {p : Nat} {names : List ByteArray} {i : Nat} {w : World} (h : LnSt B w0 s A n c l p names i w) (hi : i + 2000 < 899000) :
    Calls Tryd.prog 34 #[.pointer (some ⟨s, 0, none⟩), .pointer (some ⟨p, 0, none⟩)] w fun e w' => ∃ r, PcOk 300 r ∧ e = .returned (.string r) ∧ LnSt B w0 s A n c l p names (i + 1000) w' := by
  have hs := h.le
  go_enter Tryd.func34, Tryd.ntmps34
  go_wp2_with fail
  refine (nameL_any h (by omega)).mono ?_
  rintro e w1 ⟨nm, hnm, rfl, h1⟩
  clear h hs
  have hs := h1.le
  have HN := Lib.hid hnm
  have zn := hnm.2
  clear hnm
  go_wp2_with fail
  refine ((h1.alloc _).text _ _ litF (RdN.made hs litF _ rfl _) (by decide) (by decide) (by omega) 4 litF_ok).mono ?_
  rintro e w2 ⟨fr, hfr, rfl, h2⟩
  clear h1 hs
  have hs := h2.le
  have HF := Lib.hid hfr
  have zf := hfr.2
  clear hfr
  go_wp2_with fail
  refine (h2.pick 9 (by decide) (by decide) (by omega)).mono ?_
  rintro e w3 ⟨k, hk, rfl, h3⟩
  clear h2 hs
  have hs := h3.le
  have hk' : k = 0 ∨ k = 1 ∨ k = 2 ∨ k = 3 ∨ k = 4 ∨ k = 5 ∨ k = 6 ∨ k = 7 ∨ k = 8 := by omega
  rcases hk' with rfl | rfl | rfl | rfl | rfl | rfl | rfl | rfl | rfl
  · go_wp2_with fail
    refine ((h3.alloc _).text _ _ lit0 (RdN.made hs lit0 _ rfl _) (by decide) (by decide) (by omega) 14 lit0_ok).mono ?_
    rintro e w4 ⟨r, hr, rfl, h4⟩
    have HH := Lib.hid (And.intro hr h4)
    clear hr h4
    go_wp2_with fail
    go_ret
    exact ⟨r, HH.out.1.le (by decide), rfl, HH.out.2.more (by omega) (by omega)⟩
  · go_wp2_with fail
    refine (drawOkL_any h3 (by omega)).mono ?_
    rintro e w4 ⟨A2, c2, L, W, H, rfl, hH0, hH, hW, own4, h4⟩
    clear h3 hs
    have PT := Lib.hid (ptext_any w4.heap.size A2 c2 (rowsTo L W H) (w4.alloc (.cells #[.slice A2 H c2] 77)) (by simp) (by rw [rowsTo_length, (Blk.made w4 77 #[.slice A2 H c2]).cell 0]; rfl)
      ((Rd.of_own own4).ext (Ext.more (Ext.refl _) _)) (by rw [rowsTo_length]; exact hH0) (by rw [rowsTo_length]; exact hH) (rowS_ok L W H hW))
    have H4 := Lib.hid (h4.alloc (.cells #[.slice A2 H c2] 77))
    have t1 : ¬ 9223372036854775807 < 4 + fr.size := by omega
    have t2 : ¬ 9223372036854775807 < 4 + fr.size + 1 := by omega
    clear own4 h4
    go_wp2_with fail
    refine PT.out.mono ?_
    rintro e w5 ⟨q, rfl, hq, rfl⟩
    rw [rowsTo_length] at hq
    have HQ := Lib.hid (hq.le (show 17 * H ≤ 272 by omega))
    have zq := HQ.out.2
    have t3 : ¬ 9223372036854775807 < 4 + fr.size + 1 + q.size := by omega
    clear hq PT
    go_wp2_with fail
    go_ret
    exact ⟨_, ((((show PcOk 4 ⟨#[115, 101, 116, 32]⟩ by decide).add HF.out).add (show PcOk 1 ⟨#[32]⟩ by decide)).add HQ.out).le (by decide), rfl, H4.out.more (by omega) (by omega)⟩
  · go_wp2_with fail
    refine ((h3.alloc _).text _ _ lit2 (RdN.made hs lit2 _ rfl _) (by decide) (by decide) (by omega) 6 lit2_ok).mono ?_
    rintro e w4 ⟨r, hr, rfl, h4⟩
    have H4 := Lib.hid h4
    have HR := Lib.hid hr
    have zr := hr.2
    have t1 : ¬ 9223372036854775807 < r.size + nm.size := by omega
    clear hr h4
    go_wp2_with fail
    go_ret
    exact ⟨_, (HR.out.add HN.out).le (by decide), rfl, H4.out.more (by omega) (by omega)⟩
  · go_wp2_with fail
    refine ((h3.alloc _).text _ _ lit3 (RdN.made hs lit3 _ rfl _) (by decide) (by decide) (by omega) 7 lit3_ok).mono ?_
    rintro e w4 ⟨r, hr, rfl, h4⟩
    have H4 := Lib.hid h4
    have HR := Lib.hid hr
    have zr := hr.2
    have t1 : ¬ 9223372036854775807 < r.size + fr.size := by omega
    have t2 : ¬ 9223372036854775807 < r.size + fr.size + 1 := by omega
    have t3 : ¬ 9223372036854775807 < r.size + fr.size + 1 + nm.size := by omega
    clear hr h4
    go_wp2_with fail
    go_ret
    exact ⟨_, (((HR.out.add HF.out).add (show PcOk 1 ⟨#[32]⟩ by decide)).add HN.out).le (by decide), rfl, H4.out.more (by omega) (by omega)⟩
  · go_wp2_with fail
    refine ((h3.alloc _).text _ _ lit4 (RdN.made hs lit4 _ rfl _) (by decide) (by decide) (by omega) 6 lit4_ok).mono ?_
    rintro e w4 ⟨r, hr, rfl, h4⟩
    clear h3
    have HR := Lib.hid hr
    have zr := hr.2
    have t1 : ¬ 9223372036854775807 < r.size + fr.size := by omega
    have t2 : ¬ 9223372036854775807 < r.size + fr.size + 1 := by omega
    have t3 : ¬ 9223372036854775807 < r.size + fr.size + 1 + nm.size := by omega
    have t4 : ¬ 9223372036854775807 < r.size + fr.size + 1 + nm.size + 1 := by omega
    clear hr
    go_wp2_with fail
    refine (h4.pick 5 (by decide) (by decide) (by omega)).mono ?_
    rintro e w5 ⟨k5, hk5, rfl, h5⟩
    clear h4
    go_wp2_with fail
    refine (h5.dec _ (by omega) (by omega)).mono ?_
    rintro e w6 ⟨q, hq, rfl, h6⟩
    have H6 := Lib.hid h6
    have HQ := Lib.hid hq
    have zq := hq.2
    have t5 : ¬ 9223372036854775807 < r.size + fr.size + 1 + nm.size + 1 + q.size := by omega
    clear hq h5 h6
    go_wp2_with fail
    go_ret
    exact ⟨_, (((((HR.out.add HF.out).add (show PcOk 1 ⟨#[32]⟩ by decide)).add HN.out).add (show PcOk 1 ⟨#[32]⟩ by decide)).add HQ.out).le (by decide), rfl, H6.out.more (by omega) (by omega)⟩
  · go_wp2_with fail
    refine (h3.pick 7 (by decide) (by decide) (by omega)).mono ?_
    rintro e w4 ⟨k4, hk4, rfl, h4⟩
    clear h3
    have t1 : ¬ 9223372036854775807 < 6 + fr.size := by omega
    have t2 : ¬ 9223372036854775807 < 6 + fr.size + 1 := by omega
    have t3 : ¬ 9223372036854775807 < 6 + fr.size + 1 + nm.size := by omega
    have t4 : ¬ 9223372036854775807 < 6 + fr.size + 1 + nm.size + 1 := by omega
    go_wp2_with fail
    refine (h4.dec _ (by omega) (by omega)).mono ?_
    rintro e w5 ⟨q, hq, rfl, h5⟩
    have HQ := Lib.hid hq
    have zq := hq.2
    have t5 : ¬ 9223372036854775807 < 6 + fr.size + 1 + nm.size + 1 + q.size := by omega
    have t6 : ¬ 9223372036854775807 < 6 + fr.size + 1 + nm.size + 1 + q.size + 1 := by omega
    clear hq h4
    go_wp2_with fail
    refine (h5.pick 7 (by decide) (by decide) (by omega)).mono ?_
    rintro e w6 ⟨k6, hk6, rfl, h6⟩
    clear h5
    go_wp2_with fail
    refine (h6.dec _ (by omega) (by omega)).mono ?_
    rintro e w7 ⟨q2, hq2, rfl, h7⟩
    have H7 := Lib.hid h7
    have HQ2 := Lib.hid hq2
    have zq2 := hq2.2
    have t7 : ¬ 9223372036854775807 < 6 + fr.size + 1 + nm.size + 1 + q.size + 1 + q2.size := by omega
    clear hq2 h6 h7
    go_wp2_with fail
    go_ret
    exact ⟨_, ((((((((show PcOk 6 ⟨#[115, 104, 105, 102, 116, 32]⟩ by decide).add HF.out).add (show PcOk 1 ⟨#[32]⟩ by decide)).add HN.out).add (show PcOk 1 ⟨#[32]⟩ by decide)).add HQ.out).add (show PcOk 1 ⟨#[32]⟩ by decide)).add HQ2.out).le (by decide), rfl, H7.out.more (by omega) (by omega)⟩
  · go_wp2_with fail
    refine (nameL_any h3 (by omega)).mono ?_
    rintro e w4 ⟨ot, hot, rfl, h4⟩
    clear h3
    have HO := Lib.hid hot
    have zo := hot.2
    clear hot
    have t1 : ¬ 9223372036854775807 < 5 + fr.size := by omega
    have t2 : ¬ 9223372036854775807 < 5 + fr.size + 1 := by omega
    have t3 : ¬ 9223372036854775807 < 5 + fr.size + 1 + nm.size := by omega
    have t4 : ¬ 9223372036854775807 < 5 + fr.size + 1 + nm.size + 1 := by omega
    have t5 : ¬ 9223372036854775807 < 5 + fr.size + 1 + nm.size + 1 + ot.size := by omega
    have t6 : ¬ 9223372036854775807 < 5 + fr.size + 1 + nm.size + 1 + ot.size + 1 := by omega
    go_wp2_with fail
    refine (h4.pick 4 (by decide) (by decide) (by omega)).mono ?_
    rintro e w5 ⟨k5, hk5, rfl, h5⟩
    clear h4
    go_wp2_with fail
    refine (h5.dec _ (by omega) (by omega)).mono ?_
    rintro e w6 ⟨q, hq, rfl, h6⟩
    have H6 := Lib.hid h6
    have HQ := Lib.hid hq
    have zq := hq.2
    have t7 : ¬ 9223372036854775807 < 5 + fr.size + 1 + nm.size + 1 + ot.size + 1 + q.size := by omega
    clear hq h5 h6
    go_wp2_with fail
    go_ret
    exact ⟨_, ((((((((show PcOk 5 ⟨#[106, 111, 105, 110, 32]⟩ by decide).add HF.out).add (show PcOk 1 ⟨#[32]⟩ by decide)).add HN.out).add (show PcOk 1 ⟨#[32]⟩ by decide)).add HO.out).add (show PcOk 1 ⟨#[32]⟩ by decide)).add HQ.out).le (by decide), rfl, H6.out.more (by omega) (by omega)⟩
  · go_wp2_with fail
    refine (h3.pick 4 (by decide) (by decide) (by omega)).mono ?_
    rintro e w4 ⟨k4, hk4, rfl, h4⟩
    clear h3 hs
    obtain ⟨W, hWd⟩ : ∃ W, k4 + 1 = W := ⟨_, rfl⟩
    have e1 : (1 : Int) + (k4 : Int) = (W : Int) := by omega
    have hW : 1 ≤ W ∧ W ≤ 4 := by omega
    clear hWd
    go_wp2_with fail
    try rw [e1]
    refine (gdrawL_any h4 (by omega) W hW.1 hW.2).mono ?_
    rintro e w5 ⟨A2, c2, vs, O, lo, hi2, rfl, hO, hM, h5⟩
    have ML : (gO O W 3).length = 3 := gO_length _ _ _
    have GV := gO_val hO
    have PT := Lib.hid (gtext_any w5.heap.size A2 c2 (gO O W 3) (w5.alloc (.cells #[.slice A2 3 c2] 83)) (by simp) (by rw [ML, (Blk.made w5 83 #[.slice A2 3 c2]).cell 0]; rfl)
      (hM.rd.ext (Ext.more (Ext.refl _) _)) (by rw [ML]; decide) (by rw [ML]; decide) (fun r hr => by rw [(GV r hr).1]; exact hW) (fun r hr => (GV r hr).2))
    rw [ML] at PT
    have H5 := Lib.hid (h5.alloc (.cells #[.slice A2 3 c2] 83))
    clear h4 h5 hM hO ML GV
    go_wp2_with fail
    refine PT.out.mono ?_
    rintro e w6 ⟨q, rfl, hq, hb6⟩
    have H6 := Lib.hid (H5.out.ext hb6)
    have HQ := Lib.hid hq
    have zq := hq.2
    have t3 : ¬ 9223372036854775807 < 6 + q.size := by omega
    clear hq PT H5 hb6
    go_wp2_with fail
    go_ret
    exact ⟨_, ((show PcOk 6 ⟨#[119, 97, 116, 101, 114, 32]⟩ by decide).add HQ.out).le (by decide), rfl, H6.out.more (by omega) (by omega)⟩
  · go_wp2_with fail
    refine (h3.pick 4 (by decide) (by decide) (by omega)).mono ?_
    rintro e w4 ⟨k4, hk4, rfl, h4⟩
    clear h3 hs
    obtain ⟨W, hWd⟩ : ∃ W, k4 + 1 = W := ⟨_, rfl⟩
    have e1 : (1 : Int) + (k4 : Int) = (W : Int) := by omega
    have hW : 1 ≤ W ∧ W ≤ 4 := by omega
    clear hWd
    go_wp2_with fail
    try rw [e1]
    refine (gdrawL_any h4 (by omega) W hW.1 hW.2).mono ?_
    rintro e w5 ⟨A2, c2, vs, O, lo, hi2, rfl, hO, hM, h5⟩
    have ML : (gO O W 3).length = 3 := gO_length _ _ _
    have GV := gO_val hO
    have PT := Lib.hid (gtext_any w5.heap.size A2 c2 (gO O W 3) (w5.alloc (.cells #[.slice A2 3 c2] 83)) (by simp) (by rw [ML, (Blk.made w5 83 #[.slice A2 3 c2]).cell 0]; rfl)
      (hM.rd.ext (Ext.more (Ext.refl _) _)) (by rw [ML]; decide) (by rw [ML]; decide) (fun r hr => by rw [(GV r hr).1]; exact hW) (fun r hr => (GV r hr).2))
    rw [ML] at PT
    have H5 := Lib.hid (h5.alloc (.cells #[.slice A2 3 c2] 83))
    clear h4 h5 hM hO ML GV
    go_wp2_with fail
    refine PT.out.mono ?_
    rintro e w6 ⟨q, rfl, hq, hb6⟩
    have H6 := Lib.hid (H5.out.ext hb6)
    have HQ := Lib.hid hq
    have zq := hq.2
    have t3 : ¬ 9223372036854775807 < 8 + q.size := by omega
    clear hq PT H5 hb6
    go_wp2_with fail
    go_ret
    exact ⟨_, ((show PcOk 8 ⟨#[118, 97, 108, 108, 101, 121, 115, 32]⟩ by decide).add HQ.out).le (by decide), rfl, H6.out.more (by omega) (by omega)⟩

end Go.Proofs.YtgbciimfpahekaaDoor
