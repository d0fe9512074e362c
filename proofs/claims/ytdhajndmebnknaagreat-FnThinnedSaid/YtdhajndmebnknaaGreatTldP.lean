/- The reference's pictures: made of a list. Pictures told of bits; the list of a picture's pixels. -/
import Derived.Test.YtdhajndmebnknaaGreatSIs
import Derived.Test.YtdhajndmebnknaaGreatImgOf
namespace Go.Proofs.YtdhajndmebnknaaGreat
open Go.RowKit

def bools (L : List Bool) : List Value := L.map Value.bool
theorem boolT : ElemT 74 4 (.bool false) 1 1 := ⟨Tryz.underlying74, by kernel_rfl, rfl, by decide, by decide⟩

set_option maxRecDepth 100000 in
set_option maxHeartbeats 1000000 in
theorem make_any (A0 : Option Addr) (c0 W H : Nat) (L : List Bool) (w : World) (h : Rd w A0 (bools L)) (hW0 : 0 < W) (hW : W ≤ 1000) (hH : H ≤ 1000) (hL : L.length = W * H) :
    Calls Tryz.prog 42 #[.int .i64 W, .slice A0 (W * H) c0] w fun e w' => ∃ A c, e = .returned (.agg #[.slice A H c]) ∧
      w'.ownsRow w.heap.size 9 1 (.slice A H c) H (strs (rowsTo L W H)) ∧ Below w.heap.size w w' := by
  have hlen : (bools L).length = W * H := by simp [bools, hL]
  have hWH : W * H ≤ 1000000 := Nat.le_trans (Nat.mul_le_mul hW hH) (by decide)
  go_enter Tryz.func42, Tryz.ntmps42
  go_wp2_with fail
  obtain ⟨R, hR⟩ : ∃ R, R = w.heap.size := ⟨_, rfl⟩
  have hrow1 := World.ownsRow_lit (e := 9) (size := 1) (w.alloc (.cells #[.slice none 0 0] 26)) #[] 0 (Nat.le_refl _) (by decide) rfl
  simp only [World.size_alloc] at hrow1
  have I0 : Blk (((w.alloc (.cells #[.slice none 0 0] 26)).alloc (.cells #[] 9)).alloc (.cells #[.slice (some ⟨w.heap.size + 1, 0, none⟩) 0 0] 26)) w.heap.size 26 #[.slice none 0 0] := ((Blk.made _ _ _).more _).more _
  have I1 : Blk (((w.alloc (.cells #[.slice none 0 0] 26)).alloc (.cells #[] 9)).alloc (.cells #[.slice (some ⟨w.heap.size + 1, 0, none⟩) 0 0] 26)) (w.heap.size + 2) 26 #[.slice (some ⟨w.heap.size + 1, 0, none⟩) 0 0] := by
    have := Blk.made ((w.alloc (.cells #[.slice none 0 0] 26)).alloc (.cells #[] 9)) 26 #[.slice (some ⟨w.heap.size + 1, 0, none⟩) 0 0]
    simpa using this
  have I2 : Below w.heap.size w (((w.alloc (.cells #[.slice none 0 0] 26)).alloc (.cells #[] 9)).alloc (.cells #[.slice (some ⟨w.heap.size + 1, 0, none⟩) 0 0] 26)) := Ext.more (Ext.more (Ext.more (Ext.refl _) _) _) _
  have I3 : (((w.alloc (.cells #[.slice none 0 0] 26)).alloc (.cells #[] 9)).alloc (.cells #[.slice (some ⟨w.heap.size + 1, 0, none⟩) 0 0] 26)).ownsRow (w.heap.size + 1) 9 1 (.slice (some ⟨w.heap.size + 1, 0, none⟩) 0 0) 0 (strs (rowsTo L W 0)) := hrow1.alloc _
  clear hrow1
  have hRd := Lib.hid h
  clear h
  rw [← hR] at I0 I1 I2 I3 ⊢
  have HR := Lib.hid hR
  have HL := Lib.hid (And.intro hlen hL)
  clear hR hlen hL
  go_loopw [6] (fun i wr => ∃ (y c : Nat) (A : Option Addr), y ≤ H ∧ i = .int .i64 ((y * W : Nat) : Int) ∧ Blk wr R 26 #[.slice none 0 0] ∧ Blk wr (R + 2) 26 #[.slice A y c] ∧ wr.ownsRow (R + 1) 9 1 (.slice A y c) y (strs (rowsTo L W y)) ∧ Below R w wr) (fun i _ => W * H - (intOf i).toNat)
  case atStart => exact ⟨0, 0, _, Nat.zero_le _, by rw [Nat.zero_mul]; rfl, I0, I1, I3, I2⟩
  case round =>
    obtain ⟨y, c, A, hy, rfl, hB0, hB1, hown, hb⟩ := hrel
    clear I0 I1 I2 I3
    by_cases hlt : y < H
    · have hyW : y * W + W ≤ W * H := by rw [Nat.mul_comm W H, ← Nat.succ_mul]; exact Nat.mul_le_mul_right _ hlt
      obtain ⟨wo, rfl⟩ : ∃ wo : World, wo = wr := ⟨_, rfl⟩
      have hrow0 := World.ownsRow_lit (e := 5) (size := 1) wo #[] 0 (Nat.le_refl _) (by decide) rfl
      have t0 : ((y * W : Nat) : Int) < ((W * H : Nat) : Int) := by omega
      go_wp2_with fail
      go_loopw [7, 8] (fun v i wr => ∃ (x gb cb : Nat), x ≤ W ∧ i = .int .i64 x ∧ v = .slice (some ⟨gb, 0, none⟩) x cb ∧ wr.ownsRow wo.heap.size 5 1 (.slice (some ⟨gb, 0, none⟩) x cb) x (u8s (rowB L W y x)) ∧ Below wo.heap.size wo wr) (fun _ i _ => W - (intOf i).toNat)
      case atStart => exact ⟨0, _, 0, Nat.zero_le _, rfl, rfl, hrow0, Ext.more (Ext.refl _) _⟩
      case round =>
        obtain ⟨x, gb, cb, hx, rfl, rfl, hrow, hb2⟩ := hrel
        clear hrow0
        by_cases hxl : x < W
        · have hsz := hb2.size
          have RB := Lib.hid (rowB_succ L W y x)
          have hlt0 : y * W + x < L.length := by have := HL.out.2; omega
          obtain ⟨g0, rfl, hg0, hc0⟩ := hRd.out (by have := HL.out.1; omega)
          have c0 := (hb2.cell (p := ⟨g0, _, none⟩) (by have h1 := hb.size; have h2 := HR.out; show g0 < wo.heap.size; omega)).trans ((hb.cell (p := ⟨g0, _, none⟩) (by have h2 := HR.out; show g0 < R; omega)).trans (hc0 (y * W + x) (by have := HL.out.1; omega)))
          have e0 : (bools L)[y * W + x]'(by have := HL.out.1; omega) = .bool (L.getD (y * W + x) false) := by simp [bools, List.getD_eq_getElem?_getD, hlt0]
          rw [e0] at c0
          have i1 : IntKind.i64.wrap (((y * W : Nat) : Int) + x) = ((y * W + x : Nat) : Int) := by rw [IntWalk.i64_in _ (by omega)]; simp
          have i2 : (0 : Int) ≤ ((y * W + x : Nat) : Int) := by omega
          have i3 : ((y * W + x : Nat) : Int) < ((W * H : Nat) : Int) := by omega
          clear e0 hc0
          cases hbt : L.getD (y * W + x) false
          · rw [hbt] at c0 RB
            clear hbt
            go_wp2_with (at_builtin; refine wpList_app byteT (by rfl) _ _ (by rfl) wo.heap.size (.slice (some ⟨gb, 0, none⟩) x cb) x (u8s (rowB L W y x)) (by rfl) (hrow.alloc _) wr.heap.size #[.int .u8 46] (by rfl) (heap_alloc_new _ _) rfl (by simp [Value.oneCell']) (by omega) (by simp; omega) ?_; intro g3 cap3 w3 hown3 hgrow3 hat3 hlt3)
            go_roundw
            case rel =>
              refine ⟨x + 1, g3, cap3, by omega, by go_num, rfl, ?_, ?_⟩
              · rw [RB.out]; simpa [u8s] using hown3
              · exact (Ext.more hb2 _).grown hgrow3 (by simp; omega) (by intro z hz; have := (hrow.lt gb rfl).1; simp [Value.ownBlock] at hz; omega)
            case measure => simp [intOf]; omega
          · rw [hbt] at c0 RB
            clear hbt
            go_wp2_with (at_builtin; refine wpList_app byteT (by rfl) _ _ (by rfl) wo.heap.size (.slice (some ⟨gb, 0, none⟩) x cb) x (u8s (rowB L W y x)) (by rfl) (hrow.alloc _) wr.heap.size #[.int .u8 35] (by rfl) (heap_alloc_new _ _) rfl (by simp [Value.oneCell']) (by omega) (by simp; omega) ?_; intro g3 cap3 w3 hown3 hgrow3 hat3 hlt3)
            go_roundw
            case rel =>
              refine ⟨x + 1, g3, cap3, by omega, by go_num, rfl, ?_, ?_⟩
              · rw [RB.out]; simpa [u8s] using hown3
              · exact (Ext.more hb2 _).grown hgrow3 (by simp; omega) (by intro z hz; have := (hrow.lt gb rfl).1; simp [Value.ownBlock] at hz; omega)
            case measure => simp [intOf]; omega
        · obtain rfl : x = W := by omega
          have hB1' := hB1.under hb2 hB1.lt
          have c0 := hB1'.cell 0
          have f0 := hB1'.free 0
          simp at c0
          have hown' := own_ext hb2 hown
          have hRlt := hB1'.lt
          have hcv : (convert 22 9 (.slice (some ⟨gb, 0, none⟩) x cb)).run Tryz.prog wr = .ok (.string (rowS L x y)) wr := str_of_own hrow (rowB_length _ _ _ _)
          have hRwo := hB0.lt
          have hR1 : ∀ z, (Value.slice A y c).ownBlock = some z → R + 1 ≤ z := fun z hz => (hown'.lt z hz).1
          have hR2 := own_blk_ne hown' hB1' (by decide)
          have i4 : IntKind.i64.wrap (((y * x : Nat) : Int) + x) = (((y + 1) * x : Nat) : Int) := by rw [IntWalk.i64_in _ (by omega), Nat.add_mul]; simp
          go_wp2_with (at_builtin; refine wpList_app strT (by rfl) _ _ (by rfl) (R + 1) (.slice A y c) y (strs (rowsTo L x y)) (by rfl) (hown'.alloc _) wr.heap.size #[.string (rowS L x y)] (by rfl) (heap_alloc_new _ _) rfl (by simp [Value.oneCell']) (by omega) (by simp; omega) ?_; intro g3 cap3 w3 hown3 hgrow3 hat3 hlt3; have hB3 := (hB1'.more (.cells #[.string (rowS L x y)] 9)).by_grown hgrow3 (fun e => hR2 e.symm); have c3 := hB3.cell 0; have f3 := hB3.free 0; simp at c3)
          have hB0' := ((hB0.under hb2 hB0.lt).more (.cells #[.string (rowS L x y)] 9)).by_grown hgrow3 (fun e => by have := hR1 _ e.symm; omega)
          have hb3 : Below R w w3 := (((hb.trans (hb2.mono (by omega))).alloc (by omega) _).grown hgrow3 (by simp; omega) (fun z hz => by have := hR1 z hz; omega))
          go_roundw
          case rel =>
            refine ⟨y + 1, cap3, some ⟨g3, 0, none⟩, by omega, by simp [Nat.add_mul], hB0'.apart (p := ⟨R + 2, 0, none⟩) (by simp) _, hB3.store 0 _, ?_, hb3.setCell (p := ⟨R + 2, 0, none⟩) (by show R ≤ R + 2; omega) _⟩
            rw [rowsTo_succ]
            have hR3 := own_blk_ne hown3 hB3 (by decide)
            have := ((Chg.refl (fun k => k = R + 2) w3).store (p := ⟨R + 2, 0, none⟩) rfl (.slice (some ⟨g3, 0, none⟩) (y + 1) cap3)).own hown3 (fun g hg e => hR3 (by rw [hg, e]))
            simpa [strs] using this
          case measure => simp [intOf]; omega
    · obtain rfl : y = H := by omega
      have c1 := hB1.cell 0
      have c0 := hB0.cell 0
      have f0 := hB0.free 0
      simp at c1 c0
      have t0 : ¬ ((y * W : Nat) : Int) < ((W * y : Nat) : Int) := by rw [Nat.mul_comm]; omega
      go_wp2_with fail
      have cs := (hB0.store 0 (.slice A y c)).cell 0
      simp at cs
      refine bodyPost_ret (v := .agg #[.slice A y c]) (by simp [results, Tryz.results42, go_sem, cs]) rfl ⟨A, c, rfl, ?_, ?_⟩
      · rw [← HR.out]; exact own_base (ownsRow_setCell_below hown (a := ⟨R, 0, none⟩) (by show R < R + 1; omega) _) (by omega)
      · rw [← HR.out]; exact hb.setCell (p := ⟨R, 0, none⟩) (Nat.le_refl _) _
end Go.Proofs.YtdhajndmebnknaaGreat

namespace Go.Proofs.YtdhajndmebnknaaGreat
open Go.RowKit

/-- The first k bits by a function. -/
def bTo (f : Nat → Bool) (k : Nat) : List Bool := (List.range k).map f
theorem bTo_succ (f : Nat → Bool) (k : Nat) : bTo f (k + 1) = bTo f k ++ [f k] := by simp [bTo, List.range_succ]
theorem bTo_length (f : Nat → Bool) (k : Nat) : (bTo f k).length = k := by simp [bTo]
theorem bTo_get {b : Nat → Bool} {n i : Nat} (h : i < n) : (bTo b n).getD i false = b i := by simp [bTo, List.getD_eq_getElem?_getD, h]
theorem idx_lt {W H x y : Nat} (hx : x < W) (hy : y < H) : y * W + x < W * H := by
  have : y * W + W ≤ W * H := by rw [Nat.mul_comm W H, ← Nat.succ_mul]; exact Nat.mul_le_mul_right _ hy
  omega
theorem bit_bTo {b : Nat → Bool} {W H x y : Nat} (hx : x < W) (hy : y < H) : bit (bTo b (W * H)) W H x y = b (y * W + x) := by
  rw [bit_in hx hy, bTo_get (idx_lt hx hy)]
theorem list_bits {L : List Bool} {W H : Nat} (hL : L.length = W * H) {f : Nat → Bool} (h : ∀ x y, x < W → y < H → f (y * W + x) = bit L W H x y) : bTo f (W * H) = L := by
  apply List.ext_getElem
  · rw [bTo_length, hL]
  · intro i h1 h2
    have hW : 0 < W := by
      rcases Nat.eq_zero_or_pos W with e | e
      · subst e; rw [hL] at h2; simp at h2
      · exact e
    have hi : i < W * H := by omega
    have hx := Nat.mod_lt i hW
    have hy : i / W < H := Nat.div_lt_of_lt_mul hi
    have e : i / W * W + i % W = i := by rw [Nat.mul_comm]; exact Nat.div_add_mod i W
    have := h (i % W) (i / W) hx hy
    rw [e, bit_in hx hy, e] at this
    simp only [bTo, List.getElem_map, List.getElem_range]
    rw [this]
    simp [List.getD_eq_getElem?_getD, h2]

/-- Rows that were told of bits are a picture with these bits. -/
theorem told_row {L : List Bool} {W H y : Nat} (hy : y < H) : (rowsTo L W H)[y]'(by rw [rowsTo_length]; exact hy) = rowS L W y := by simp [rowsTo]
theorem rowS_size (L : List Bool) (W y : Nat) : (rowS L W y).size = W := by simp [rowS, ByteArray.size, rowB_length]
theorem told_w {L : List Bool} {W H : Nat} (hH : 0 < H) : picW (rowsTo L W H) = W := by
  rw [← picW_head (by rw [rowsTo_length]; exact hH), told_row hH, rowS_size]
theorem rowS_at {L : List Bool} {W y x : Nat} (hx : x < W) : (rowS L W y).data.toList.getD x 0 = if L.getD (y * W + x) false then 35 else 46 := by
  simp [rowS, rowB, List.getD_eq_getElem?_getD, hx]
theorem told_ok {L : List Bool} {W H : Nat} (hW0 : 0 < W) (hW : W ≤ 16) (hH0 : 0 < H) (hH : H ≤ 16) : picOk (rowsTo L W H) = true := by
  refine picOk_yes ?_ (fun y hy => ?_)
  · simp only [sizesOk, told_w hH0, rowsTo_length, Bool.and_eq_true, inB_iff]; omega
  · rw [told_w hH0]
    rw [rowsTo_length] at hy
    rw [told_row hy]
    refine row_yes (rowS_size _ _ _) (fun j hj => ?_)
    rw [rowS_size] at hj
    have h1 := rowS_at (L := L) (y := y) hj
    rw [bytes_at _ _ (by rw [rowS_size]; exact hj)] at h1
    rw [h1]
    split <;> simp
theorem told_bits {L : List Bool} {W H : Nat} (hH0 : 0 < H) (hL : L.length = W * H) : picBits (rowsTo L W H) = L := by
  have e : picBits (rowsTo L W H) = bTo (pix (rowsTo L W H) W) (W * H) := by
    rw [picBits, told_w hH0, rowsTo_length]; rfl
  rw [e]
  refine list_bits hL (fun x y hx hy => ?_)
  rw [pix_at (rows := rowsTo L W H) (by rw [rowsTo_length]; exact hy) hx, told_row hy, rowS_at hx, bit_in hx hy]
  cases L.getD (y * W + x) false <;> rfl
end Go.Proofs.YtdhajndmebnknaaGreat
