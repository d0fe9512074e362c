/- The grey picture of a picture: the program's. Grey pictures by a function of places: remade; a number that is stored. -/
import Derived.Test.YtkamkjbllmgifaaGrid
import Derived.Test.YtkamkjbllmgifaaImgOf
import Derived.Test.YtkamkjbllmgifaaArd
namespace Go.Proofs.Ytkamkjbllmgifaa
open Go.RowKit

def gf (L : List Bool) (W H x y : Nat) : Int := if bit L W H x y then 0 else 99
end Go.Proofs.Ytkamkjbllmgifaa

namespace Go.Proofs.Ytkamkjbllmgifaa
open Go.RowKit

/-- A matrix by a function of places. -/
def gO (O : Nat → Int) (W H : Nat) : List (List Int) := gridI (fun x y => O (y * W + x)) W H
theorem gO_length (O : Nat → Int) (W H : Nat) : (gO O W H).length = H := gridI_length _ _ _
theorem gO_row (O : Nat → Int) (W H y : Nat) (h : y < (gO O W H).length) : (gO O W H)[y] = (List.range W).map fun x => O (y * W + x) := by
  simp [gO, gridI, rowI]
theorem gO_w (O : Nat → Int) (W H y : Nat) (h : y < (gO O W H).length) : (gO O W H)[y].length = W := by rw [gO_row]; simp
theorem gO_get (O : Nat → Int) (W H y x : Nat) (h : y < (gO O W H).length) (hx : x < (gO O W H)[y].length) : (gO O W H)[y][x] = O (y * W + x) := by
  simp [gO, gridI, rowI]
theorem gO_set (O : Nat → Int) (W H x y : Nat) (v : Int) (hx : x < W) (hy : y < H) : (gO O W H).set y (((gO O W H)[y]'(by rw [gO_length]; exact hy)).set x v) = gO (setF O (y * W + x) v) W H := by
  apply List.ext_getElem
  · simp [gO_length]
  · intro j h1 h2
    rw [List.length_set, gO_length] at h1
    rw [List.getElem_set]
    by_cases e : y = j
    · subst e
      rw [if_pos rfl]
      apply List.ext_getElem
      · simp [gO_w]
      · intro i h3 h4
        rw [List.length_set, gO_w] at h3
        rw [List.getElem_set, gO_get]
        by_cases e2 : x = i
        · subst e2; rw [if_pos rfl, gO_get, setF_same]
        · rw [if_neg e2, gO_get, setF_ne (by omega)]
    · rw [if_neg e]
      apply List.ext_getElem
      · simp [gO_w]
      · intro i h3 h4
        rw [gO_w] at h3
        have hne : j * W + i ≠ y * W + x := by
          intro h
          have a := congrArg (· / W) h
          simp only [plD h3, plD hx] at a
          exact e a.symm
        rw [gO_get, gO_get, setF_ne hne]
theorem tabW_gO (O : Nat → Int) {W H : Nat} (hH : 0 < H) : tabW (gO O W H) = W := by
  rw [← tabW_head (by rw [gO_length]; exact hH), gO_w]

/-- A number is stored in a matrix of the call's own. -/
theorem enters_remade1 : Enters 70 := enters_of Try.func70 (by kernel_rfl) (by kernel_rfl)
set_option maxHeartbeats 400000 in
theorem remade1_any (t x y : Nat) (K : FuncId) (caps : Array Value) (v : Int) (w : World) (ht : w.cell? ⟨t, 0, none⟩ = some (.func (.func K) #[] caps)) (hK : Enters K)
    (hF : Calls Try.prog K (#[.agg #[.int .i64 x, .int .i64 y]] ++ caps) w fun e w' => e = .returned (.int .i64 v) ∧ Below w.heap.size w w') :
    Calls Try.prog 70 #[.int .i64 x, .int .i64 y, .pointer (some ⟨t, 0, none⟩)] w fun e w' => e = .returned (.int .i64 v) ∧ Below w.heap.size w w' := by
  have FH := Lib.hid hF
  clear hF
  unfold Enters at hK
  go_enter Try.func70, Try.ntmps70
  go_wp2_with fail
  refine FH.out.mono ?_
  rintro e w2 ⟨rfl, hb⟩
  go_wp2_with fail
  go_ret
  exact ⟨rfl, hb⟩
set_option maxRecDepth 100000 in
set_option maxHeartbeats 1000000 in
theorem remade_any (p : Nat) (A : Option Addr) (c : Nat) (rows : List (List Int)) (K : FuncId) (caps : Array Value) (O : Nat → Int) (W H : Nat) (w : World) (h : GreyAt w p A c rows) (hW0 : tabW rows = W) (hH0 : rows.length = H) (hH1 : 0 < H) (hW : W ≤ 1000) (hH : H ≤ 1000) (hK : Enters K)
    (hF : ∀ (x y : Nat), x < W → y < H → ∀ wr, Below w.heap.size w wr → Calls Try.prog K (#[.agg #[.int .i64 x, .int .i64 y]] ++ caps) wr fun e w' => e = .returned (.int .i64 (O (y * W + x))) ∧ Below wr.heap.size wr w') :
    Calls Try.prog 40 #[.pointer (some ⟨p, 0, none⟩), .func (.func K) #[] caps] w fun e w' => ∃ A c vs, e = .returned (.agg #[.slice A H c]) ∧ MatAt w' w.heap.size w'.heap.size A c vs (gO O W H) ∧ Below w.heap.size w w' := by
  have T1 : Blk ((w.alloc (.cells #[.func (.func K) #[] caps] 62)).alloc (.cells #[.slice none 0 0] 26)) w.heap.size 62 #[.func (.func K) #[] caps] := (Blk.made _ _ _).more _
  have T2 : Blk ((w.alloc (.cells #[.func (.func K) #[] caps] 62)).alloc (.cells #[.slice none 0 0] 26)) (w.heap.size + 1) 26 #[.slice none 0 0] := by
    have := Blk.made (w.alloc (.cells #[.func (.func K) #[] caps] 62)) 26 #[.slice none 0 0]
    simpa using this
  have B1 : Below w.heap.size w ((w.alloc (.cells #[.func (.func K) #[] caps] 62)).alloc (.cells #[.slice none 0 0] 26)) := Ext.more (Ext.more (Ext.refl _) _) _
  have SZ := Lib.hid (sizes_any p A c rows _ (h.ext B1) (by omega))
  rw [hW0, hH0] at SZ
  have z1 : ((w.alloc (.cells #[.func (.func K) #[] caps] 62)).alloc (.cells #[.slice none 0 0] 26)).heap.size = w.heap.size + 1 + 1 := by simp
  have Z1 := Lib.hid z1
  clear z1
  have FH := Lib.hid hF
  have hmf : ∀ (fn : Fn) (first cap : Array Value) (w : World), (Instr.makeFunc fn first cap).run Try.prog w = .ok (.func fn first cap) w := fun _ _ _ _ => rfl
  clear h hW0 hH0 hF
  go_enter Try.func40, Try.ntmps40
  go_wp2_with fail
  generalize hw1 : (w.alloc (.cells #[.func (.func K) #[] caps] 62)).alloc (.cells #[.slice none 0 0] 26) = w1 at *
  refine SZ.out.mono ?_
  rintro e w2 ⟨rfl, n, rfl⟩
  go_wp2_with fail
  refine (blank_any W H _ hW hH).mono ?_
  rintro e w' ⟨rfl, rfl⟩
  have hi := blank_img (w1.drewN n) W H
  have B2 : Below w1.heap.size w1 (((w1.drewN n).alloc (.cells (boolC (List.replicate (W * H) false)) 4)).alloc (.cells #[.int .i64 W, .int .i64 H, .slice (some ⟨w1.heap.size, 0, none⟩) (W * H) (W * H)] 125)) := Ext.more (Ext.more (Ext.drawN (Ext.refl w1) n) _) _
  have GR := Lib.hid (grid_any (w1.heap.size + 1) W H _ 70 #[.pointer (some ⟨w.heap.size, 0, none⟩)] (fun x y => O (y * W + x)) _ hi.hdr hW hH enters_remade1 (fun x y hx hy wr hb => by
    have T3 := (T1.under B2 T1.lt).under hb (T1.under B2 T1.lt).lt
    have c3 := T3.cell 0
    simp at c3
    exact remade1_any w.heap.size x y K caps _ wr c3 hK (FH.out x y hx hy wr (Ext.then_ (Ext.then_ B1 B2) hb))))
  clear hi
  go_wp2_with fail
  refine GR.out.mono ?_
  rintro e w3 ⟨A2, c2, vs, rfl, hm, hb⟩
  have B3 := Ext.then_ (Ext.then_ B1 B2) hb
  have T3 := (T2.under B2 T2.lt).under hb (T2.under B2 T2.lt).lt
  have c0 := T3.cell 0
  have f0 := T3.free 0
  have cs := (T3.store 0 (.slice A2 H c2)).cell 0
  simp at c0 cs
  replace hm := hm.low (lo' := w.heap.size + 1 + 1) (Nat.le_trans (Nat.le_of_eq Z1.out.symm) B2.size) (Nat.le_refl _)
  have HM := Lib.hid hm
  clear hm GR hb B2
  go_wp2_with fail
  refine bodyPost_ret (v := .agg #[.slice A2 H c2]) (by simp [results, Try.results40, go_sem, cs]) rfl ⟨A2, c2, vs, rfl, ?_, ?_⟩
  · have hk := HM.out.keep ((Chg.refl (fun b => b < w.heap.size + 1 + 1) w3).store (p := ⟨w.heap.size + 1, 0, none⟩) (by show w.heap.size + 1 < w.heap.size + 1 + 1; omega) (.slice A2 H c2)) (fun b h1 h2 h3 => by omega)
    have hz : (w3.setCell ⟨w.heap.size + 1, 0, none⟩ (.slice A2 H c2)).heap.size = w3.heap.size := by simp [World.setCell]
    rw [hz]
    exact hk.low (by omega) (Nat.le_refl _)
  · exact B3.setCell (p := ⟨w.heap.size + 1, 0, none⟩) (by show w.heap.size ≤ w.heap.size + 1; omega) _
end Go.Proofs.Ytkamkjbllmgifaa
