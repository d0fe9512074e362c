/- The reference's residues. -/
import Derived.Test.YtogefmkplkddoaaDoorTldP
import Derived.Test.YtogefmkplkddoaaDoorSMake
import Derived.Test.YtogefmkplkddoaaDoorFrom
namespace Go.Proofs.YtogefmkplkddoaaDoor
open Go.RowKit

def resF (L : List Bool) (W H i : Nat) : Bool := resB L W H ((i % W : Nat) : Int) ((i / W : Nat) : Int)
theorem resL_eq (L : List Bool) (W H : Nat) : resL L W H = bTo (resF L W H) (W * H) := rfl
theorem frL_eq (L : List Bool) (W H : Nat) : frL L W H = bTo (frB L W) (W * H) := rfl
theorem resF_at {L : List Bool} {W H x y : Nat} (hx : x < W) : resF L W H (y * W + x) = ((bit L W H x y != bit L W H ((x : Int) - 1) y) != (bit L W H x ((y : Int) - 1) != bit L W H ((x : Int) - 1) ((y : Int) - 1))) := by
  unfold resF; rw [divW hx, modW hx]; rfl

set_option maxRecDepth 100000 in
set_option maxHeartbeats 1000000 in
theorem residueS_any (p : Nat) (A0 : Option Addr) (c0 : Nat) (rows : List ByteArray) (w : World) (h : PicAt w p A0 c0 rows) (hok : picOk rows = true) :
    Calls Tryd.prog 85 #[.pointer (some ⟨p, 0, none⟩)] w fun e w' => ∃ A c, e = .returned (.agg #[.slice A rows.length c]) ∧
      w'.ownsRow w.heap.size 9 1 (.slice A rows.length c) rows.length (strs (rowsTo (resL (picBits rows) (picW rows) rows.length) (picW rows) rows.length)) ∧ Below w.heap.size w w' := by
  obtain ⟨s1, s2, s3, s4⟩ := picOk_sizes hok
  have BH := Lib.hid (fun x y V (hV : PicAt V p A0 c0 rows) => black_any p A0 c0 rows x y V hV hok)
  have WH := Lib.hid (fun V (hV : PicAt V p A0 c0 rows) => width_any p A0 c0 rows V hV s1)
  have HH := Lib.hid (fun V (hV : PicAt V p A0 c0 rows) => height_any p A0 c0 rows V hV)
  have FH := Lib.hid (fun x y (hx : x < picW rows) => resF_at (L := picBits rows) (W := picW rows) (H := rows.length) (x := x) (y := y) hx)
  have MH := Lib.hid (fun (A : Option Addr) (c : Nat) V (hV : Rd V A (bools (resL (picBits rows) (picW rows) rows.length))) => make_any A c (picW rows) rows.length (resL (picBits rows) (picW rows) rows.length) V hV s3 (by omega) (by omega) (by rw [resL_eq, bTo_length]))
  have PH := Lib.hid (fun V (hb : Below w.heap.size w V) => h.ext hb)
  rw [resL_eq] at MH ⊢
  clear h hok
  generalize rows.length = H at *
  generalize picW rows = W at *
  generalize picBits rows = L at *
  have hWH : W * H ≤ 1000000 := Nat.le_trans (Nat.mul_le_mul (show W ≤ 1000 by omega) (show H ≤ 1000 by omega)) (by decide)
  have hrow0 := World.ownsRow_lit (e := 4) (size := 1) (w.alloc (.cells #[.slice none 0 0] 36)) #[] 0 (Nat.le_refl _) (by decide) rfl
  simp only [World.size_alloc] at hrow0
  have I0 : Blk ((w.alloc (.cells #[.slice none 0 0] 36)).alloc (.cells #[] 4)) w.heap.size 36 #[.slice none 0 0] := ((Blk.made _ _ _).more _)
  have I2 : Below w.heap.size w ((w.alloc (.cells #[.slice none 0 0] 36)).alloc (.cells #[] 4)) := Ext.more (Ext.more (Ext.refl _) _) _
  go_enter Tryd.func85, Tryd.ntmps85
  go_wp2_with fail
  obtain ⟨R, hR⟩ : ∃ R, R = w.heap.size := ⟨_, rfl⟩
  rw [← hR] at I0 I2 hrow0 ⊢
  have HR := Lib.hid hR
  rw [← hR] at PH
  clear hR
  go_loopw [3, 4] (fun v i wr => ∃ (y c : Nat) (A : Option Addr), y ≤ H ∧ i = .int .i64 y ∧ v = .slice A (y * W) c ∧ Blk wr R 36 #[.slice none 0 0] ∧ wr.ownsRow (R + 1) 4 1 (.slice A (y * W) c) (y * W) (bools (bTo (resF L W H) (y * W))) ∧ Below R w wr) (fun _ i _ => H - (intOf i).toNat)
  case atStart => exact ⟨0, 0, _, Nat.zero_le _, rfl, by rw [Nat.zero_mul], I0, by rw [Nat.zero_mul]; exact hrow0, I2⟩
  case round =>
    obtain ⟨y, c, A, hy, rfl, rfl, hB0, hown, hb⟩ := hrel
    clear I0 I2 hrow0
    have H1 := Lib.hid (HH.out _ (PH.out _ hb))
    by_cases hlt : y < H
    · have hyW : y * W + W ≤ W * H := by rw [Nat.mul_comm W H, ← Nat.succ_mul]; exact Nat.mul_le_mul_right _ hlt
      obtain ⟨wo, rfl⟩ : ∃ wo : World, wo = wr := ⟨_, rfl⟩
      have i2 : IntKind.i64.wrap ((y : Int) - 1) = (y : Int) - 1 := IntWalk.i64_in _ (by omega)
      go_wp2_with (go_at_call 82; refine H1.out.mono ?_; rintro e w' ⟨rfl, rfl⟩)
      go_loopw [3, 5] (fun v i wr => ∃ (x c : Nat) (A : Option Addr), x ≤ W ∧ i = .int .i64 x ∧ v = .slice A (y * W + x) c ∧ Blk wr R 36 #[.slice none 0 0] ∧ wr.ownsRow (R + 1) 4 1 (.slice A (y * W + x) c) (y * W + x) (bools (bTo (resF L W H) (y * W + x))) ∧ Below R w wr) (fun _ i _ => W - (intOf i).toNat)
      case atStart => exact ⟨0, _, _, Nat.zero_le _, rfl, rfl, hB0, hown, hb⟩
      case round =>
        obtain ⟨x, c2, A2, hx, rfl, rfl, hB2, hown2, hb2⟩ := hrel
        have W1 := Lib.hid (WH.out _ (PH.out _ hb2))
        by_cases hxl : x < W
        · have F := Lib.hid (FH.out x y hxl)
          have i1 : IntKind.i64.wrap ((x : Int) - 1) = (x : Int) - 1 := IntWalk.i64_in _ (by omega)
          have P1 := Lib.hid (fun x y => BH.out x y wr (PH.out _ hb2))
          have hlt2 := hB2.lt
          go_wp2_with (first
            | (go_at_call 81; refine W1.out.mono ?_; rintro e w' ⟨rfl, rfl⟩)
            | (go_at_call 83; refine (P1.out _ _).mono ?_; rintro e w' ⟨rfl, rfl⟩)
            | (at_builtin; refine wpList_app boolT (by rfl) _ _ (by rfl) (R + 1) (.slice A2 (y * W + x) c2) (y * W + x) (bools (bTo (resF L W H) (y * W + x))) (by rfl) (hown2.alloc _) wr.heap.size #[.bool (resF L W H (y * W + x))] (by rfl) (by rw [F.out]; exact heap_alloc_new _ _) rfl (by simp [Value.oneCell']) (by omega) (by simp; omega) ?_; intro g3 cap3 w3 hown3 hgrow3 hat3 hlt3))
          go_roundw
          case rel =>
            refine ⟨x + 1, cap3, some ⟨g3, 0, none⟩, by omega, by go_num, rfl, ?_, ?_, ?_⟩
            · exact (hB2.more _).by_grown hgrow3 (fun e => by have := (hown2.lt _ e.symm).1; omega)
            · rw [show y * W + (x + 1) = y * W + x + 1 from rfl, bTo_succ]; simpa [bools] using hown3
            · exact (hb2.alloc (by omega) _).grown hgrow3 (by simp; omega) (fun z hz => by have := (hown2.lt z hz).1; omega)
          case measure => simp [intOf]; omega
        · obtain rfl : x = W := by omega
          go_wp2_with (go_at_call 81; refine W1.out.mono ?_; rintro e w' ⟨rfl, rfl⟩)
          go_roundw
          case rel => exact ⟨y + 1, _, _, by omega, by go_num, by rw [Nat.add_mul, Nat.one_mul], hB2, by rw [Nat.add_mul, Nat.one_mul]; exact hown2, hb2⟩
          case measure => simp [intOf]; omega
    · obtain rfl : y = H := by omega
      have W1 := Lib.hid (WH.out _ (PH.out _ hb))
      have M1 := Lib.hid (MH.out A c wr (by rw [Nat.mul_comm]; exact Rd.of_own hown))
      rw [Nat.mul_comm W y] at M1
      have hlt2 := hB0.lt
      go_wp2_with (first
        | (go_at_call 82; refine H1.out.mono ?_; rintro e w' ⟨rfl, rfl⟩)
        | (go_at_call 81; refine W1.out.mono ?_; rintro e w' ⟨rfl, rfl⟩)
        | (go_at_call 46; refine M1.out.mono ?_; rintro e w3 ⟨A3, c3, rfl, hown3, hb3⟩; have hB3 := hB0.under hb3 hB0.lt; have c3' := hB3.cell 0; have f3 := hB3.free 0; simp at c3'))
      have cs := (hB3.store 0 (.slice A3 y c3)).cell 0
      simp at cs
      refine bodyPost_ret (v := .agg #[.slice A3 y c3]) (by simp [results, Tryd.results85, go_sem, cs]) rfl ⟨A3, c3, rfl, ?_, ?_⟩
      · rw [← HR.out]; rw [Nat.mul_comm]; exact own_base (ownsRow_setCell_below hown3 (a := ⟨R, 0, none⟩) (by show R < wr.heap.size; omega) _) (by omega)
      · rw [← HR.out]; exact (hb.trans (hb3.mono (by omega))).setCell (p := ⟨R, 0, none⟩) (Nat.le_refl _) _
end Go.Proofs.YtogefmkplkddoaaDoor
