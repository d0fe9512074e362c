/- The reference's pictures from residues. -/
import Derived.Test.YtogefmkplkddoaaDoorSRes
namespace Go.Proofs.YtogefmkplkddoaaDoor
open Go.RowKit

theorem frB_zero {L : List Bool} {W x : Nat} (hx : x < W) : frB L W (0 * W + x) = rowX L W 0 (x + 1) := by rw [frB_at hx]; rfl
theorem frB_next {L : List Bool} {W x y : Nat} (hx : x < W) : frB L W ((y + 1) * W + x) = (rowX L W (y + 1) (x + 1) != frB L W (y * W + x)) := by rw [frB_at hx, frB_at hx]; rfl

set_option maxRecDepth 100000 in
set_option maxHeartbeats 1000000 in
theorem fromS_any (p : Nat) (A0 : Option Addr) (c0 : Nat) (rows : List ByteArray) (w : World) (h : PicAt w p A0 c0 rows) (hok : picOk rows = true) :
    Calls Tryd.prog 47 #[.pointer (some ⟨p, 0, none⟩)] w fun e w' => ∃ A c, e = .returned (.agg #[.slice A rows.length c]) ∧
      w'.ownsRow w.heap.size 9 1 (.slice A rows.length c) rows.length (strs (rowsTo (frL (picBits rows) (picW rows) rows.length) (picW rows) rows.length)) ∧ Below w.heap.size w w' := by
  obtain ⟨s1, s2, s3, s4⟩ := picOk_sizes hok
  have BH := Lib.hid (fun x y V (hV : PicAt V p A0 c0 rows) => black_any p A0 c0 rows x y V hV hok)
  have WH := Lib.hid (fun V (hV : PicAt V p A0 c0 rows) => width_any p A0 c0 rows V hV s1)
  have HH := Lib.hid (fun V (hV : PicAt V p A0 c0 rows) => height_any p A0 c0 rows V hV)
  have MH := Lib.hid (fun (A : Option Addr) (c : Nat) V (hV : Rd V A (bools (frL (picBits rows) (picW rows) rows.length))) => make_any A c (picW rows) rows.length (frL (picBits rows) (picW rows) rows.length) V hV s3 (by omega) (by omega) (by rw [frL_eq, bTo_length]))
  have PH := Lib.hid (fun V (hb : Below w.heap.size w V) => h.ext hb)
  rw [frL_eq] at MH ⊢
  clear h hok
  generalize rows.length = H at *
  generalize picW rows = W at *
  generalize picBits rows = L at *
  have hWH : W * H ≤ 1000000 := Nat.le_trans (Nat.mul_le_mul (show W ≤ 1000 by omega) (show H ≤ 1000 by omega)) (by decide)
  have hrow0 := World.ownsRow_lit (e := 4) (size := 1) (w.alloc (.cells #[.slice none 0 0] 36)) #[] 0 (Nat.le_refl _) (by decide) rfl
  simp only [World.size_alloc] at hrow0
  have I0 : Blk ((w.alloc (.cells #[.slice none 0 0] 36)).alloc (.cells #[] 4)) w.heap.size 36 #[.slice none 0 0] := ((Blk.made _ _ _).more _)
  have I2 : Below w.heap.size w ((w.alloc (.cells #[.slice none 0 0] 36)).alloc (.cells #[] 4)) := Ext.more (Ext.more (Ext.refl _) _) _
  have W1 := Lib.hid (WH.out (w.alloc (.cells #[.slice none 0 0] 36)) (PH.out _ (Ext.more (Ext.refl _) _)))
  go_enter Tryd.func47, Tryd.ntmps47
  go_wp2_with (go_at_call 81; refine W1.out.mono ?_; rintro e w' ⟨rfl, rfl⟩)
  obtain ⟨R, hR⟩ : ∃ R, R = w.heap.size := ⟨_, rfl⟩
  rw [← hR] at I0 I2 hrow0 ⊢
  have HR := Lib.hid hR
  rw [← hR] at PH
  clear hR
  go_loopw [4, 5] (fun v i wr => ∃ (y c : Nat) (A : Option Addr), y ≤ H ∧ i = .int .i64 y ∧ v = .slice A (y * W) c ∧ Blk wr R 36 #[.slice none 0 0] ∧ wr.ownsRow (R + 1) 4 1 (.slice A (y * W) c) (y * W) (bools (bTo (frB L W) (y * W))) ∧ Below R w wr) (fun _ i _ => H - (intOf i).toNat)
  case atStart => exact ⟨0, 0, _, Nat.zero_le _, rfl, by rw [Nat.zero_mul], I0, by rw [Nat.zero_mul]; exact hrow0, I2⟩
  case round =>
    obtain ⟨y, c, A, hy, rfl, rfl, hB0, hown, hb⟩ := hrel
    clear I0 I2 hrow0
    have H1 := Lib.hid (HH.out _ (PH.out _ hb))
    by_cases hlt : y < H
    · have hyW : y * W + W ≤ W * H := by rw [Nat.mul_comm W H, ← Nat.succ_mul]; exact Nat.mul_le_mul_right _ hlt
      obtain ⟨wo, rfl⟩ : ∃ wo : World, wo = wr := ⟨_, rfl⟩
      go_wp2_with (go_at_call 82; refine H1.out.mono ?_; rintro e w' ⟨rfl, rfl⟩)
      go_loopw [4, 6, 7] (fun v o i wr => ∃ (x c : Nat) (A : Option Addr), x ≤ W ∧ i = .int .i64 x ∧ o = .bool (rowX L W y x) ∧ v = .slice A (y * W + x) c ∧ Blk wr R 36 #[.slice none 0 0] ∧ wr.ownsRow (R + 1) 4 1 (.slice A (y * W + x) c) (y * W + x) (bools (bTo (frB L W) (y * W + x))) ∧ Below R w wr) (fun _ _ i _ => W - (intOf i).toNat)
      case atStart => exact ⟨0, _, _, Nat.zero_le _, rfl, rfl, rfl, hB0, hown, hb⟩
      case round =>
        obtain ⟨x, c2, A2, hx, rfl, rfl, rfl, hB2, hown2, hb2⟩ := hrel
        by_cases hxl : x < W
        · have P1 := Lib.hid (BH.out x y wr (PH.out _ hb2))
          rw [bit_in hxl hlt] at P1
          have hlt2 := hB2.lt
          obtain ⟨k, hk⟩ : ∃ k, y * W + x = k := ⟨_, rfl⟩
          obtain ⟨o, ho⟩ : ∃ o, rowX L W y x = o := ⟨_, rfl⟩
          obtain ⟨o', ho'⟩ : ∃ o', rowX L W y (x + 1) = o' := ⟨_, rfl⟩
          have F0 : (o != L.getD k false) = o' := by rw [← ho, ← hk, ← ho']; rfl
          have hfb : y = 0 → frB L W k = o' := fun e => by subst e; rw [← hk, ← ho']; exact frB_zero hxl
          have hfn : ∀ yp, y = yp + 1 → frB L W k = (o' != frB L W (yp * W + x)) := fun yp e => by subst e; rw [← hk, ← ho']; exact frB_next hxl
          rw [hk] at hown2 P1 ⊢
          rw [ho]
          have HO' := Lib.hid ho'
          have hk2 : k ≤ 1000000 := by omega
          have KH := Lib.hid hk
          generalize L.getD k false = q at *
          have FIN := Lib.hid (fun (g3 cap3 : Nat) (w3 : World) (hown3 : w3.ownsRow (R + 1) 4 1 (.slice (some ⟨g3, 0, none⟩) (k + 1) cap3) (k + 1) (bools (bTo (frB L W) k) ++ #[Value.bool (frB L W k)].toList)) => (show w3.ownsRow (R + 1) 4 1 (.slice (some ⟨g3, 0, none⟩) (k + 1) cap3) (k + 1) (bools (bTo (frB L W) (k + 1))) by rw [bTo_succ]; simpa [bools] using hown3))
          obtain ⟨fb, hfb'⟩ : ∃ fb, frB L W k = fb := ⟨_, rfl⟩
          rw [hfb'] at FIN hfb hfn
          by_cases y0 : y = 0
          · have hfb := hfb y0
            have ny : ¬ (0 : Int) < (y : Int) := by omega
            clear hfn ho ho' hfb' hk
            subst hfb
            have HH0 := Lib.hid y0
            clear y0
            cases o <;> cases q <;> subst F0
            all_goals
              go_wp2_with (first
                | (go_at_call 83; refine P1.out.mono ?_; rintro e w' ⟨rfl, rfl⟩)
                | (at_builtin; refine wpList_app boolT (by rfl) _ _ (by rfl) (R + 1) (.slice A2 k c2) k (bools (bTo (frB L W) k)) (by rfl) (hown2.alloc _) wr.heap.size #[.bool _] (by rfl) (heap_alloc_new _ _) rfl (by simp [Value.oneCell']) (by omega) (by simp; omega) ?_; intro g3 cap3 w3 hown3 hgrow3 hat3 hlt3))
              go_roundw
              case rel =>
                refine ⟨x + 1, cap3, some ⟨g3, 0, none⟩, by omega, by go_num, by rw [HO'.out]; rfl, by rw [← Nat.add_assoc, KH.out], ?_, ?_, ?_⟩
                · exact (hB2.more _).by_grown hgrow3 (fun e => by have := (hown2.lt _ e.symm).1; omega)
                · rw [show y * W + (x + 1) = y * W + x + 1 from rfl, KH.out]; exact FIN.out _ _ _ hown3
                · exact (hb2.alloc (by omega) _).grown hgrow3 (by simp; omega) (fun z hz => by have := (hown2.lt z hz).1; omega)
              case measure => simp [intOf]; omega
          · obtain ⟨yp, hyp⟩ : ∃ yp, y = yp + 1 := ⟨y - 1, by omega⟩
            have hfn := hfn yp hyp
            have hyW2 : yp * W + W = y * W := by rw [hyp, Nat.add_mul]; omega
            have cl : ∃ g2, A2 = some ⟨g2, 0, none⟩ ∧ wr.cell? ⟨g2, yp * W + x, none⟩ = some (.bool (frB L W (yp * W + x))) := by
              obtain ⟨g2, e, hg2, hc2⟩ := Rd.of_own hown2 (by simp [bools, bTo_length]; omega)
              refine ⟨g2, e, ?_⟩
              rw [hc2 _ (by simp [bools, bTo_length]; omega)]
              simp [bools, bTo]
            obtain ⟨g2, rfl, c2'⟩ := cl
            generalize frB L W (yp * W + x) = z at *
            have i1 : IntKind.i64.wrap ((y : Int) - 1) = (yp : Int) := by rw [IntWalk.i64_in _ (by omega)]; omega
            have i4 : IntKind.i64.wrap ((yp : Int) * W) = ((yp * W : Nat) : Int) := by rw [IntWalk.i64_in _ (by rw [← Int.natCast_mul]; omega)]; simp
            have i5 : IntKind.i64.wrap (((yp * W : Nat) : Int) + x) = ((yp * W + x : Nat) : Int) := by rw [IntWalk.i64_in _ (by omega)]; simp
            have i6 : (0 : Int) ≤ ((yp * W + x : Nat) : Int) := by omega
            have i7 : ((yp * W + x : Nat) : Int) < (k : Int) := by omega
            have i8 : (0 : Int) < (y : Int) := by omega
            have XK : Hid (y * W + x = k ∧ y ≤ H ∧ x < W ∧ y = yp + 1) := ⟨hk, hy, hxl, hyp⟩
            clear hfb ho ho' hfb' hk hyp y0
            cases o <;> cases q <;> cases z <;> subst F0 <;> subst hfn
            all_goals
              go_wp2_with (first
                | (go_at_call 83; refine P1.out.mono ?_; rintro e w' ⟨rfl, rfl⟩)
                | (at_builtin; refine wpList_app boolT (by rfl) _ _ (by rfl) (R + 1) (.slice (some ⟨g2, 0, none⟩) k c2) k (bools (bTo (frB L W) k)) (by rfl) (hown2.alloc _) wr.heap.size #[.bool _] (by rfl) (heap_alloc_new _ _) rfl (by simp [Value.oneCell']) (by omega) (by simp; omega) ?_; intro g3 cap3 w3 hown3 hgrow3 hat3 hlt3))
              go_roundw
              case rel =>
                refine ⟨x + 1, cap3, some ⟨g3, 0, none⟩, by omega, by go_num, by rw [HO'.out]; rfl, by rw [← Nat.add_assoc, KH.out], ?_, ?_, ?_⟩
                · exact (hB2.more _).by_grown hgrow3 (fun e => by have := (hown2.lt _ e.symm).1; omega)
                · rw [show y * W + (x + 1) = y * W + x + 1 from rfl, KH.out]; exact FIN.out _ _ _ hown3
                · exact (hb2.alloc (by omega) _).grown hgrow3 (by simp; omega) (fun z hz => by have := (hown2.lt z hz).1; omega)
              case measure => simp [intOf]; omega
        · obtain rfl : x = W := by omega
          go_wp2_with fail
          go_roundw
          case rel => exact ⟨y + 1, _, _, by omega, by go_num, by rw [Nat.add_mul, Nat.one_mul], hB2, by rw [Nat.add_mul, Nat.one_mul]; exact hown2, hb2⟩
          case measure => simp [intOf]; omega
    · obtain rfl : y = H := by omega
      have M1 := Lib.hid (MH.out A c wr (by rw [Nat.mul_comm]; exact Rd.of_own hown))
      rw [Nat.mul_comm W y] at M1
      have hlt2 := hB0.lt
      go_wp2_with (first
        | (go_at_call 82; refine H1.out.mono ?_; rintro e w' ⟨rfl, rfl⟩)
        | (go_at_call 46; refine M1.out.mono ?_; rintro e w3 ⟨A3, c3, rfl, hown3, hb3⟩; have hB3 := hB0.under hb3 hB0.lt; have c3' := hB3.cell 0; have f3 := hB3.free 0; simp at c3'))
      have cs := (hB3.store 0 (.slice A3 y c3)).cell 0
      simp at cs
      refine bodyPost_ret (v := .agg #[.slice A3 y c3]) (by simp [results, Tryd.results47, go_sem, cs]) rfl ⟨A3, c3, rfl, ?_, ?_⟩
      · rw [← HR.out]; rw [Nat.mul_comm]; exact own_base (ownsRow_setCell_below hown3 (a := ⟨R, 0, none⟩) (by show R < wr.heap.size; omega) _) (by omega)
      · rw [← HR.out]; exact (hb.trans (hb3.mono (by omega))).setCell (p := ⟨R, 0, none⟩) (Nat.le_refl _) _
end Go.Proofs.YtogefmkplkddoaaDoor
