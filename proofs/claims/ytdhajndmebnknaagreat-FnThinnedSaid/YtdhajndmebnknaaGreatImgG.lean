/- Images whose pixels have spare cells behind them (clones): what get, set, told, withImage and company do. Printed by gen_imgs.py. -/
import Derived.Test.YtdhajndmebnknaaGreatWith
import Derived.Test.YtdhajndmebnknaaGreatEnd
namespace Go.Proofs.YtdhajndmebnknaaGreat
open Go.RowKit

def boolG (L : List Bool) (sp : List Value) : Array Value := (L.map Value.bool ++ sp).toArray
theorem boolC_getG (L : List Bool) (sp : List Value) (i : Nat) (h : i < L.length) : (boolG L sp)[i]? = some (.bool L[i]) := by
  simp [boolG, List.getElem?_append_left, h]
theorem boolG_set (L : List Bool) (sp : List Value) (i : Nat) (h : i < L.length) (b : Bool) : (boolG L sp).setIfInBounds i (.bool b) = boolG (L.set i b) sp := by
  simp [boolG, List.set_append_left, h, List.map_set]
/-- An image with spare cells. -/
structure ImgG (w : World) (p g cap : Nat) (sp : List Value) (W H : Nat) (L : List Bool) : Prop where
  hdr : Blk w p 79 #[.int .i64 W, .int .i64 H, .slice (some ⟨g, 0, none⟩) (W * H) cap]
  bits : Blk w g 4 (boolG L sp)
  len : L.length = W * H
theorem Img.g {w : World} {p g W H : Nat} {L : List Bool} (h : Img w p g W H L) : ImgG w p g (W * H) [] W H L := ⟨h.hdr, by have := h.bits; rw [show boolG L [] = boolC L by simp [boolG, boolC]]; exact this, h.len⟩
theorem ImgG.ext {w w' : World} {p g cap W H : Nat} {sp : List Value} {L : List Bool} (h : ImgG w p g cap sp W H L) (hb : Below w.heap.size w w') : ImgG w' p g cap sp W H L :=
  ⟨h.hdr.under hb h.hdr.lt, h.bits.under hb h.bits.lt, h.len⟩
theorem ImgG.drewN {w : World} {p g cap W H : Nat} {sp : List Value} {L : List Bool} (h : ImgG w p g cap sp W H L) (k : Nat) : ImgG (w.drewN k) p g cap sp W H L := ⟨h.hdr, h.bits, h.len⟩
theorem ImgG.put {w : World} {p g cap W H : Nat} {sp : List Value} {L : List Bool} (h : ImgG w p g cap sp W H L) (i : Nat) (hi : i < W * H) (b : Bool) : ImgG (w.setCell ⟨g, i, none⟩ (.bool b)) p g cap sp W H (L.set i b) := by
  refine ⟨h.hdr.apart (p := ⟨g, i, none⟩) (h.hdr.ne h.bits (by decide)) _, ?_, by rw [List.length_set]; exact h.len⟩
  have := h.bits.store i (.bool b)
  rw [boolG_set L sp i (by rw [h.len]; exact hi)] at this
  exact this
set_option maxHeartbeats 400000 in
theorem has_anyG (p g cap : Nat) (sp : List Value) (W H : Nat) (L : List Bool) (x y : Int) (w : World) (h : ImgG w p g cap sp W H L) (hW : W ≤ 1000) (hH : H ≤ 1000) :
    Calls Tryz.prog 35 #[.pointer (some ⟨p, 0, none⟩), .int .i64 x, .int .i64 y] w fun e w' => e = .returned (.bool (hasB W H x y)) ∧ w = w' := by
  have c0 := h.hdr.cell 0
  have c1 := h.hdr.cell 1
  simp at c0 c1
  cases h1 : inB x 0 ((W : Int) - 1)
  · go_enter Tryz.func35, Tryz.ntmps35
    go_wp2_with (go_at_call 58; refine (in_any _ _ _ _).mono ?_; rintro e w' ⟨rfl, rfl⟩)
    go_ret
    exact ⟨ret_bool (by simp [hasB, h1]), rfl⟩
  · go_enter Tryz.func35, Tryz.ntmps35
    go_wp2_with (go_at_call 58; refine (in_any _ _ _ _).mono ?_; rintro e w' ⟨rfl, rfl⟩)
    go_ret
    exact ⟨ret_bool (by simp [hasB, h1]), rfl⟩

set_option maxHeartbeats 1000000 in
theorem get_anyG (p g cap : Nat) (sp : List Value) (W H : Nat) (L : List Bool) (x y : Int) (w : World) (h : ImgG w p g cap sp W H L) (hW : W ≤ 1000) (hH : H ≤ 1000) :
    Calls Tryz.prog 32 #[.pointer (some ⟨p, 0, none⟩), .int .i64 x, .int .i64 y] w fun e w' => e = .returned (.bool (bit L W H x y)) ∧ ∃ k, w' = w.drewN k := by
  have HA := Lib.hid (fun W' (hh : ImgG W' p g cap sp W H L) => has_anyG p g cap sp W H L x y W' hh hW hH)
  cases h1 : hasB W H x y
  · have F : Hid (bit L W H x y = false) := by
      have : ¬ ((0 ≤ x ∧ x < W) ∧ 0 ≤ y ∧ y < H) := by rw [← hasB_iff]; simp [h1]
      simp only [Hid, bit, Bool.and_eq_false_iff, decide_eq_false_iff_not]; omega
    rw [h1] at HA
    clear h1
    go_enter Tryz.func32, Tryz.ntmps32
    go_wp2_with fail
    go_quiet ((go_at_call 35; exact Calls.quiet_of_same ((HA.out _ (h.drewN _)).mono fun _ _ ⟨h, k⟩ => ⟨h, k.symm⟩)))
    go_wp2_with fail
    go_ret
    exact ⟨ret_bool F.out.symm, _, rfl⟩
  · obtain ⟨⟨x0, x1⟩, y0, y1⟩ := hasB_iff.1 h1
    rw [h1] at HA
    clear h1
    obtain ⟨x, rfl⟩ := Int.eq_ofNat_of_zero_le x0
    obtain ⟨y, rfl⟩ := Int.eq_ofNat_of_zero_le y0
    have hb := mul_bd (y := y) (W := W) (H := H) (by omega) hW hH
    have hi : y * W + x < L.length := by rw [h.len]; omega
    have F : Hid (bit L W H x y = L[y * W + x]) := by
      have e : ((y : Int) * W + x).toNat = y * W + x := by omega
      simp [Hid, bit, e, hi]; omega
    have c0 := h.hdr.cell 0
    have c2 := h.hdr.cell 2
    simp at c0 c2
    have c3 := (h.bits.cell (y * W + x)).trans (boolC_getG L sp _ hi)
    generalize L[y * W + x] = b at *
    have i0 : IntKind.i64.wrap ((y : Int) * W) = ((y * W : Nat) : Int) := by rw [IntWalk.i64_in _ (by omega)]; simp
    have i1 : IntKind.i64.wrap (((y * W : Nat) : Int) + x) = ((y * W + x : Nat) : Int) := by rw [IntWalk.i64_in _ (by omega)]; simp
    have i2 : (0 : Int) ≤ ((y * W + x : Nat) : Int) := by omega
    have i3 : ((y * W + x : Nat) : Int) < ((W * H : Nat) : Int) := by have := h.len; omega
    go_enter Tryz.func32, Tryz.ntmps32
    go_wp2_with fail
    go_quiet ((go_at_call 35; exact Calls.quiet_of_same ((HA.out _ (h.drewN _)).mono fun _ _ ⟨h, k⟩ => ⟨h, k.symm⟩)))
    go_wp2_with fail
    go_ret
    exact ⟨ret_bool F.out.symm, _, rfl⟩
set_option maxHeartbeats 1000000 in
theorem set_anyG (p g cap : Nat) (sp : List Value) (W H : Nat) (L : List Bool) (x y : Nat) (b : Bool) (w : World) (h : ImgG w p g cap sp W H L) (hW : W ≤ 1000) (hH : H ≤ 1000) (hx : x < W) (hy : y < H) :
    Calls Tryz.prog 36 #[.pointer (some ⟨p, 0, none⟩), .int .i64 x, .int .i64 y, .bool b] w fun e w' => e = .returned (.tuple #[]) ∧ (w.setCell ⟨g, y * W + x, none⟩ (.bool b)).drew = w' := by
  have hb := mul_bd (y := y) (W := W) (H := H) (by omega) hW hH
  have hi : y * W + x < L.length := by rw [h.len]; omega
  have c0 := h.hdr.cell 0
  have c2 := h.hdr.cell 2
  simp at c0 c2
  have c3 := (h.bits.cell (y * W + x)).trans (boolC_getG L sp _ hi)
  have f3 := h.bits.free (y * W + x)
  generalize L[y * W + x] = b' at *
  have i0 : IntKind.i64.wrap ((y : Int) * W) = ((y * W : Nat) : Int) := by rw [IntWalk.i64_in _ (by omega)]; simp
  have i1 : IntKind.i64.wrap (((y * W : Nat) : Int) + x) = ((y * W + x : Nat) : Int) := by rw [IntWalk.i64_in _ (by omega)]; simp
  have i2 : (0 : Int) ≤ ((y * W + x : Nat) : Int) := by omega
  have i3 : ((y * W + x : Nat) : Int) < ((W * H : Nat) : Int) := by have := h.len; omega
  go_enter Tryz.func36, Tryz.ntmps36
  go_wp2_with fail
  go_region
  all_goals go_end0
  all_goals exact ⟨rfl, rfl⟩

set_option maxRecDepth 100000 in
set_option maxHeartbeats 1000000 in
theorem told_anyG (p g cap : Nat) (sp : List Value) (W H : Nat) (L : List Bool) (w : World) (h : ImgG w p g cap sp W H L) (hW : W ≤ 1000) (hH : H ≤ 1000) :
    Calls Tryz.prog 51 #[.pointer (some ⟨p, 0, none⟩)] w fun e w' => ∃ A c, e = .returned (.agg #[.slice A H c]) ∧
      w'.ownsRow w.heap.size 9 1 (.slice A H c) H (strs (rowsTo L W H)) ∧ Below w.heap.size w w' := by
  have c1 := h.hdr.cell 1
  simp at c1
  have hp := h.hdr.lt
  go_enter Tryz.func51, Tryz.ntmps51
  go_wp2_with fail
  obtain ⟨R, hR⟩ : ∃ R, R = w.heap.size := ⟨_, rfl⟩
  have I0 : Blk ((w.alloc (.cells #[.slice none 0 0] 26)).alloc (.cells #[.slice none 0 0] 26)) w.heap.size 26 #[.slice none 0 0] := (Blk.made _ _ _).more _
  have I1 : Blk ((w.alloc (.cells #[.slice none 0 0] 26)).alloc (.cells #[.slice none 0 0] 26)) (w.heap.size + 1) 26 #[.slice none 0 0] := by
    have := Blk.made (w.alloc (.cells #[.slice none 0 0] 26)) 26 #[.slice none 0 0]
    simpa using this
  have I2 : Below w.heap.size w ((w.alloc (.cells #[.slice none 0 0] 26)).alloc (.cells #[.slice none 0 0] 26)) := Ext.more (Ext.more (Ext.refl _) _) _
  have himg := h.ext I2
  clear c1
  rw [← hR] at hp I0 I1 I2 ⊢
  have HR := Lib.hid hR
  clear hR
  go_loopw [12] (fun i wr => ∃ (y c : Nat) (A : Option Addr), y ≤ H ∧ i = .int .i64 y ∧ Blk wr R 26 #[.slice none 0 0] ∧ Blk wr (R + 1) 26 #[.slice A y c] ∧ wr.ownsRow (R + 2) 9 1 (.slice A y c) y (strs (rowsTo L W y)) ∧ ImgG wr p g cap sp W H L ∧ Below R w wr) (fun i _ => H - (intOf i).toNat)
  case atStart => exact ⟨0, 0, none, Nat.zero_le _, rfl, I0, I1, World.ownsRow_nil _ _ _ _, himg, I2⟩
  case round =>
    obtain ⟨y, c, A, hy, rfl, hB0, hB1, hown, hm, hb⟩ := hrel
    clear I0 I1 I2 himg
    by_cases hlt : y < H
    · have c0 := hm.hdr.cell 0
      simp at c0
      have hplt := hm.hdr.lt
      obtain ⟨wo, rfl⟩ : ∃ wo : World, wo = wr := ⟨_, rfl⟩
      have hrow0 := World.ownsRow_lit (e := 5) (size := 1) wo #[] 0 (Nat.le_refl _) (by decide) rfl
      go_wp2_with fail
      clear c0
      go_loopw [5, 20] (fun v i wr => ∃ (x gb cb : Nat), x ≤ W ∧ i = .int .i64 x ∧ v = .slice (some ⟨gb, 0, none⟩) x cb ∧ wr.ownsRow wo.heap.size 5 1 (.slice (some ⟨gb, 0, none⟩) x cb) x (u8s (rowB L W y x)) ∧ Below wo.heap.size wo wr) (fun _ i _ => W - (intOf i).toNat)
      case atStart => exact ⟨0, _, 0, Nat.zero_le _, rfl, rfl, hrow0, Ext.more (Ext.refl _) _⟩
      case round =>
        obtain ⟨x, gb, cb, hx, rfl, rfl, hrow, hb2⟩ := hrel
        clear hrow0
        by_cases hxl : x < W
        · have G := Lib.hid (get_anyG p g cap sp W H L x y wr (hm.ext hb2) hW hH)
          rw [bit_in hxl hlt] at G
          have hsz := hb2.size
          have RB := Lib.hid (rowB_succ L W y x)
          cases hbt : L.getD (y * W + x) false
          · rw [hbt] at G RB
            clear hbt
            go_wp2_with fail
            refine G.out.mono ?_
            rintro e w' ⟨rfl, kk, rfl⟩
            go_wp2_with (at_builtin; refine wpList_app byteT (by rfl) _ _ (by rfl) wo.heap.size (.slice (some ⟨gb, 0, none⟩) x cb) x (u8s (rowB L W y x)) (by rfl) (hrow.alloc _) wr.heap.size #[.int .u8 46] (by rfl) (heap_alloc_new _ _) rfl (by simp [Value.oneCell']) (by omega) (by simp; omega) ?_; intro g3 cap3 w3 hown3 hgrow3 hat3 hlt3)
            go_roundw
            case rel =>
              refine ⟨x + 1, g3, cap3, by omega, by go_num, rfl, ?_, ?_⟩
              · rw [RB.out]; simpa [u8s] using hown3
              · exact (Ext.more (Ext.drawN hb2 kk) _).grown hgrow3 (by simp; omega) (by intro z hz; have := (hrow.lt gb rfl).1; simp [Value.ownBlock] at hz; omega)
            case measure => simp [intOf]; omega
          · rw [hbt] at G RB
            clear hbt
            go_wp2_with fail
            refine G.out.mono ?_
            rintro e w' ⟨rfl, kk, rfl⟩
            go_wp2_with (at_builtin; refine wpList_app byteT (by rfl) _ _ (by rfl) wo.heap.size (.slice (some ⟨gb, 0, none⟩) x cb) x (u8s (rowB L W y x)) (by rfl) (hrow.alloc _) wr.heap.size #[.int .u8 35] (by rfl) (heap_alloc_new _ _) rfl (by simp [Value.oneCell']) (by omega) (by simp; omega) ?_; intro g3 cap3 w3 hown3 hgrow3 hat3 hlt3)
            go_roundw
            case rel =>
              refine ⟨x + 1, g3, cap3, by omega, by go_num, rfl, ?_, ?_⟩
              · rw [RB.out]; simpa [u8s] using hown3
              · exact (Ext.more (Ext.drawN hb2 kk) _).grown hgrow3 (by simp; omega) (by intro z hz; have := (hrow.lt gb rfl).1; simp [Value.ownBlock] at hz; omega)
            case measure => simp [intOf]; omega
        · obtain rfl : x = W := by omega
          have hB1' := hB1.under hb2 hB1.lt
          have c0 := hB1'.cell 0
          have f0 := hB1'.free 0
          simp at c0
          have hown' := own_ext hb2 hown
          have hRlt := hB1'.lt
          have hcv : (convert 22 9 (.slice (some ⟨gb, 0, none⟩) x cb)).run Tryz.prog wr = .ok (.string (rowS L x y)) wr := str_of_own hrow (rowB_length _ _ _ _)
          have hRwo := hB0.lt
          have hR1 : ∀ z, (Value.slice A y c).ownBlock = some z → R + 2 ≤ z := fun z hz => (hown'.lt z hz).1
          go_wp2_with (at_builtin; refine wpList_app strT (by rfl) _ _ (by rfl) (R + 2) (.slice A y c) y (strs (rowsTo L x y)) (by rfl) (hown'.alloc _) wr.heap.size #[.string (rowS L x y)] (by rfl) (heap_alloc_new _ _) rfl (by simp [Value.oneCell']) (by omega) (by simp; omega) ?_; intro g3 cap3 w3 hown3 hgrow3 hat3 hlt3; have hB3 := (hB1'.more (.cells #[.string (rowS L x y)] 9)).by_grown hgrow3 (fun e => by have := hR1 _ e.symm; omega); have c3 := hB3.cell 0; have f3 := hB3.free 0; simp at c3)
          have hB0' := ((hB0.under hb2 hB0.lt).more (.cells #[.string (rowS L x y)] 9)).by_grown hgrow3 (fun e => by have := hR1 _ e.symm; omega)
          have hm3 : ImgG w3 p g cap sp x H L := by
            have h2 := hm.ext hb2
            refine ⟨(h2.hdr.more (.cells #[.string (rowS L x y)] 9)).by_grown hgrow3 (fun e => ?_), (h2.bits.more (.cells #[.string (rowS L x y)] 9)).by_grown hgrow3 (fun e => ?_), h2.len⟩
            · have := hR1 _ e.symm; omega
            · exact own_blk_ne hown' h2.bits (by decide) e.symm
          have hb3 : Below R w w3 := (((hb.trans (hb2.mono (by omega))).alloc (by omega) _).grown hgrow3 (by simp; omega) (fun z hz => by have := hR1 z hz; omega))
          go_roundw
          case rel =>
            refine ⟨y + 1, cap3, some ⟨g3, 0, none⟩, by omega, by go_num, hB0'.apart (p := ⟨R + 1, 0, none⟩) (by simp) _, hB3.store 0 _, ?_, ⟨hm3.hdr.apart (p := ⟨R + 1, 0, none⟩) (by show p ≠ R + 1; omega) _, hm3.bits.apart (p := ⟨R + 1, 0, none⟩) (hm3.bits.ne hB3 (by decide)) _, hm3.len⟩, hb3.setCell (p := ⟨R + 1, 0, none⟩) (by show R ≤ R + 1; omega) _⟩
            rw [rowsTo_succ]
            exact ownsRow_setCell_below (by simpa [strs] using hown3) (by show R + 1 < R + 2; omega) _
          case measure => simp [intOf]; omega
    · obtain rfl : y = H := by omega
      have c1 := hB1.cell 0
      have c0 := hB0.cell 0
      have f0 := hB0.free 0
      simp at c1 c0
      go_wp2_with fail
      have cs := (hB0.store 0 (.slice A y c)).cell 0
      simp at cs
      refine bodyPost_ret (v := .agg #[.slice A y c]) (by simp [results, Tryz.results51, go_sem, cs]) rfl ⟨A, c, rfl, ?_, ?_⟩
      · rw [← HR.out]; exact own_base (ownsRow_setCell_below hown (a := ⟨R, 0, none⟩) (by show R < R + 2; omega) _) (by omega)
      · rw [← HR.out]; exact hb.setCell (p := ⟨R, 0, none⟩) (Nat.le_refl _) _
set_option maxRecDepth 100000 in
set_option maxHeartbeats 1000000 in
theorem withImage_anyG (A : Option Addr) (c : Nat) (rows : List ByteArray) (K : FuncId) (caps : Array Value) (W' H' : Nat) (L' : List Bool) (w : World) (h : Rd w A (strs rows)) (hn : rows.length ≤ 1000000000) (hW : W' ≤ 1000) (hH : H' ≤ 1000) (hK : Enters K)
    (hF : picOk rows = true → ∀ p g wr, Below w.heap.size w wr → Img wr p g (picW rows) rows.length (picBits rows) → Calls Tryz.prog K (#[.pointer (some ⟨p, 0, none⟩)] ++ caps) wr fun e w' => (∃ p' g' cap sp, e = .returned (.pointer (some ⟨p', 0, none⟩)) ∧ ImgG w' p' g' cap sp W' H' L') ∧ Below wr.heap.size wr w') :
    Calls Tryz.prog 25 #[.agg #[.slice A rows.length c], .func (.func K) #[] caps] w (PicRes w (if picOk rows then rowsTo L' W' H' else []) (picOk rows)) := by
  unfold Enters at hK
  cases hp : picOk rows
  · have IH := Lib.hid (fun (V : World) (hh : Rd V A (strs rows)) => (imageOf_any A c rows V hh hn).mono (fun e w' hI => (show e = .returned (.tuple #[.pointer none, .bool false]) ∧ Below V.heap.size V w' from ⟨hI.no hp, hI.ext⟩)))
    clear hF
    have RES : ∀ (w' : World), Below w.heap.size w w' → PicRes w [] false (.returned (.tuple #[.agg #[.slice none 0 0], .bool false])) w' := fun w' hb => ⟨none, 0, rfl, World.ownsRow_nil _ _ _ _, hb⟩
    have RH := Lib.hid RES
    clear RES hp
    show Calls _ _ _ _ (PicRes w [] false)
    go_enter Tryz.func25, Tryz.ntmps25
    go_wp2_with fail
    refine (IH.out _ (h.ext (Ext.more (Ext.more (Ext.refl _) _) _))).mono ?_
    rintro e w1 ⟨rfl, hb⟩
    obtain ⟨hco, hfo⟩ := bcell hb
    have hz := hb.size
    simp only [World.size_alloc] at hz hco hfo
    have hz1 : w.heap.size < w1.heap.size := by omega
    have hz2 : w.heap.size + 1 < w1.heap.size := by omega
    go_wp2_with fail
    refine bodyPost_ret (v := .tuple #[.agg #[.slice none 0 0], .bool false]) (by simp [results, Tryz.results25, go_sem, hco]) rfl (RH.out _ ?_)
    exact (Ext.then_ (Ext.more (Ext.more (Ext.refl _) _) _) hb).setCell (p := ⟨w.heap.size + 1, _, none⟩) (by show w.heap.size ≤ w.heap.size + 1; omega) _
  · have IH := Lib.hid (fun (V : World) (hh : Rd V A (strs rows)) => (imageOf_any A c rows V hh hn).mono (fun e w' hI => (show (∃ p g, e = .returned (.tuple #[.pointer (some ⟨p, 0, none⟩), .bool true]) ∧ Img w' p g (picW rows) rows.length (picBits rows)) ∧ Below V.heap.size V w' from ⟨(hI.yes hp).elim fun p h => h.elim fun g h => ⟨p, g, h.1, h.2.1⟩, hI.ext⟩)))
    have FH := Lib.hid (hF hp)
    have TH := Lib.hid (fun (p g cap : Nat) (sp : List Value) (V : World) (hh : ImgG V p g cap sp W' H' L') => told_anyG p g cap sp W' H' L' V hh hW hH)
    clear hF hp
    show Calls _ _ _ _ (PicRes w (rowsTo L' W' H') true)
    have hlen : (rowsTo L' W' H').length = H' := rowsTo_length _ _ _
    have PR : Hid (∀ (A' : Option Addr) (c' : Nat) (w' : World), w'.ownsRow w.heap.size 9 1 (.slice A' H' c') H' (strs (rowsTo L' W' H')) → Below w.heap.size w w' → PicRes w (rowsTo L' W' H') true (.returned (.tuple #[.agg #[.slice A' H' c'], .bool true])) w') := by
      intro A' c' w' h1 h2
      refine ⟨A', c', ?_, ?_, h2⟩
      · rw [hlen]
      · rw [hlen]; exact h1
    clear hlen
    go_enter Tryz.func25, Tryz.ntmps25
    go_wp2_with fail
    refine (IH.out _ (h.ext (Ext.more (Ext.more (Ext.refl _) _) _))).mono ?_
    rintro e w1 ⟨⟨p, g, rfl, hm⟩, hb⟩
    have hb1 := Ext.then_ (Ext.more (Ext.more (Ext.refl w) (.cells #[.slice A rows.length c] 26)) (.cells #[.slice none 0 0] 26)) hb
    have F := Lib.hid (FH.out p g w1 hb1 hm)
    go_wp2_with fail
    refine F.out.mono ?_
    rintro e w2 ⟨⟨p', g', cap', sp', rfl, hm2⟩, hb2⟩
    go_wp2_with fail
    refine (TH.out p' g' cap' sp' _ hm2).mono ?_
    rintro e w3 ⟨A', c', rfl, hown, hb3⟩
    have hB0 : Blk ((w.alloc (.cells #[.slice A rows.length c] 26)).alloc (.cells #[.slice none 0 0] 26)) (w.heap.size + 1) 26 #[.slice none 0 0] := by
      have := Blk.made (w.alloc (.cells #[.slice A rows.length c] 26)) 26 #[.slice none 0 0]
      simpa using this
    have hB1 := hB0.under hb hB0.lt
    have hB2 := hB1.under hb2 hB1.lt
    have hB3 := hB2.under hb3 hB2.lt
    have c3 := hB3.cell 0
    have f3 := hB3.free 0
    have cs := (hB3.store 0 (.slice A' H' c')).cell 0
    simp at c3 cs
    have hlt := hB2.lt
    go_wp2_with fail
    refine bodyPost_ret (v := .tuple #[.agg #[.slice A' H' c'], .bool true]) (by simp [results, Tryz.results25, go_sem, cs]) rfl (PR.out A' c' _ ?_ ?_)
    · exact own_base (ownsRow_setCell_below hown (a := ⟨w.heap.size + 1, 0, none⟩) (by show w.heap.size + 1 < w2.heap.size; omega) _) (by omega)
    · exact (Ext.then_ (Ext.then_ hb1 hb2) hb3).setCell (p := ⟨w.heap.size + 1, 0, none⟩) (by show w.heap.size ≤ w.heap.size + 1; omega) _
set_option maxRecDepth 100000 in
set_option maxHeartbeats 2000000 in
theorem company_anyG (p g cap : Nat) (sp : List Value) (W H : Nat) (L : List Bool) (x y : Int) (w : World) (h : ImgG w p g cap sp W H L) (hW : W ≤ 1000) (hH : H ≤ 1000) (hx : -900 ≤ x ∧ x ≤ 900) (hy : -900 ≤ y ∧ y ≤ 900) :
    Calls Tryz.prog 55 #[.pointer (some ⟨p, 0, none⟩), .agg #[.int .i64 x, .int .i64 y]] w fun e w' => e = .returned (.int .i64 (coN L W H (x, y) : Nat)) ∧ Below w.heap.size w w' := by
  have k0 : (w.alloc (.cells #[.int .i64 x, .int .i64 y] 38)).cell? ⟨w.heap.size, 0, none⟩ = some (.int .i64 x) := cell_new w _ _ 0
  have k1 : (w.alloc (.cells #[.int .i64 x, .int .i64 y] 38)).cell? ⟨w.heap.size, 1, none⟩ = some (.int .i64 y) := cell_new w _ _ 1
  have B0 : Below w.heap.size w (w.alloc (.cells #[.int .i64 x, .int .i64 y] 38)) := Ext.more (Ext.refl _) _
  have AR := Lib.hid (around8_any x y (w.alloc (.cells #[.int .i64 x, .int .i64 y] 38)) (by omega) (by omega))
  have IM := Lib.hid (fun V (hb : Below w.heap.size w V) => h.ext hb)
  have GK := Lib.hid (fun V (hI : ImgG V p g cap sp W H L) x y => get_anyG p g cap sp W H L x y V hI hW hH)
  have CO : Hid (coN L W H (x, y) = ((ar8 x y).take 8).countP fun q => bit L W H q.1 q.2) := rfl
  have ST := Lib.hid (co_step L W H (ar8 x y))
  have hl8 : (ar8 x y).length = 8 := rfl
  have LE : Hid (∀ k, ((ar8 x y).take k).countP (fun q => bit L W H q.1 q.2) ≤ 8) := fun k => Nat.le_trans List.countP_le_length (by rw [List.length_take, hl8]; omega)
  have HL := Lib.hid hl8
  have NC := Lib.hid (co_step L W H (ar8 x y))
  rw [CO.out]
  clear h CO hl8 NC
  generalize ar8 x y = ar at *
  go_enter Tryz.func55, Tryz.ntmps55
  go_wp2_with fail
  refine AR.out.mono ?_
  rintro e w1 ⟨ga, ca, rfl, hrow, hb1⟩
  have B1 := Ext.then_ B0 hb1
  have S1 := own_spots (L := ar) hrow HL.out
  clear hrow AR k0 k1 B0
  go_wp2_with fail
  go_loopw [5, 14] (fun m i wr => ∃ k : Nat, k ≤ 8 ∧ i = .int .i64 k ∧ m = .int .i64 ((ar.take k).countP fun q => bit L W H q.1 q.2 : Nat) ∧ Below w.heap.size w wr ∧ Below w1.heap.size w1 wr) (fun _ i _ => 8 - (intOf i).toNat)
  case atStart => exact ⟨0, Nat.zero_le _, rfl, by simp, B1, Ext.refl _⟩
  case round =>
    obtain ⟨k, hk, rfl, rfl, hb, hb'⟩ := hrel
    by_cases hlt : k < 8
    · have hkl : k < ar.length := by rw [HL.out]; exact hlt
      have hS := S1.ext hb'
      obtain ⟨c0, c1⟩ := hS.2 k hkl
      have hga := hS.1
      have SK := Lib.hid (ST.out k hkl)
      have lk := LE.out k
      have i0 : (0 : Int) ≤ (k : Int) := by omega
      have i1 : (k : Int) < 8 := by omega
      generalize ar[k] = q at *
      obtain ⟨qx, qy⟩ := q
      simp only at c0 c1 SK
      have hI := IM.out wr hb
      have G := Lib.hid (GK.out (wr.alloc (.cells #[.int .i64 qx, .int .i64 qy] 38)) (hI.ext (Ext.more (Ext.refl _) _)) qx qy)
      have BW := Lib.hid (Ext.more hb (.cells #[.int .i64 qx, .int .i64 qy] 38))
      have BW' := Lib.hid (Ext.more hb' (.cells #[.int .i64 qx, .int .i64 qy] 38))
      generalize bit L W H qx qy = bq at *
      generalize (ar.take k).countP (fun q => bit L W H q.1 q.2) = m at *
      have mk : IntKind.i64.wrap ((m : Int) + (if bq then 1 else 0)) = (m : Int) + (if bq then 1 else 0) := IntWalk.i64_in _ (by split <;> omega)
      clear hI hS
      go_wp2_with (first | (go_at_call 32; refine G.out.mono ?_; rintro e w' ⟨rfl, nd, rfl⟩) | (go_at_call 69; refine (oneIfC_any _ _).mono ?_; rintro e w' ⟨rfl, rfl⟩))
      go_roundw
      case rel => exact ⟨k + 1, by omega, by go_num, by rw [SK.out]; cases bq <;> simp, Ext.drawN BW.out nd, Ext.drawN BW'.out nd⟩
      case measure => simp [intOf]; omega
    · obtain rfl : k = 8 := by omega
      have R := Lib.hid hb
      go_wp2_with fail
      go_ret
      exact ⟨rfl, R.out⟩
end Go.Proofs.YtdhajndmebnknaaGreat
