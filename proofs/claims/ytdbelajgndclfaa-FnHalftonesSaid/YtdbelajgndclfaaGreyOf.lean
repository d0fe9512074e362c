/- The grey picture of a picture: the program's. -/
import Derived.Test.YtdbelajgndclfaaGrid
import Derived.Test.YtdbelajgndclfaaImgOf
namespace Go.Proofs.Ytdbelajgndclfaa
open Go.RowKit

def gf (L : List Bool) (W H x y : Nat) : Int := if bit L W H x y then 0 else 99
theorem oneIf_any (b : Bool) (w : World) : Calls Try.prog 131 #[.bool b] w fun e w' => e = .returned (.int .i64 (if b then 1 else 0)) ∧ w = w' := by
  cases b
  · go_enter Try.func131, Try.ntmps131
    go_wp2_with fail
    go_ret
    exact ⟨rfl, rfl⟩
  · go_enter Try.func131, Try.ntmps131
    go_wp2_with fail
    go_ret
    exact ⟨rfl, rfl⟩
theorem enters_grey1 : Enters 130 := enters_of Try.func130 (by kernel_rfl) (by kernel_rfl)
set_option maxHeartbeats 400000 in
theorem grey1_any (p g W H t : Nat) (L : List Bool) (x y : Nat) (w : World) (h : Img w p g W H L) (hW : W ≤ 1000) (hH : H ≤ 1000) (ht : Blk w t 78 #[.pointer (some ⟨p, 0, none⟩)]) :
    Calls Try.prog 130 #[.int .i64 x, .int .i64 y, .pointer (some ⟨t, 0, none⟩)] w fun e w' => e = .returned (.int .i64 (gf L W H x y)) ∧ ∃ k, w' = w.drewN k := by
  have c0 := ht.cell 0
  simp at c0
  have G := Lib.hid (get_any p g W H L x y w h hW hH)
  unfold gf
  cases hb : bit L W H x y
  · rw [hb] at G
    clear hb h
    go_enter Try.func130, Try.ntmps130
    go_wp2_with (first | (go_at_call 123; refine G.out.mono ?_; rintro e w' ⟨rfl, k, rfl⟩) | (go_at_call 131; refine (oneIf_any _ _).mono ?_; rintro e w' ⟨rfl, rfl⟩))
    go_ret
    exact ⟨rfl, _, rfl⟩
  · rw [hb] at G
    clear hb h
    go_enter Try.func130, Try.ntmps130
    go_wp2_with (first | (go_at_call 123; refine G.out.mono ?_; rintro e w' ⟨rfl, k, rfl⟩) | (go_at_call 131; refine (oneIf_any _ _).mono ?_; rintro e w' ⟨rfl, rfl⟩))
    go_ret
    exact ⟨rfl, _, rfl⟩

theorem MatAt.low {w : World} {lo lo' hi hi' : Nat} {A : Option Addr} {c : Nat} {vs : List Value} {rows : List (List Int)} (h : MatAt w lo hi A c vs rows) (h1 : lo' ≤ lo) (h2 : hi ≤ hi') : MatAt w lo' hi' A c vs rows :=
  ⟨own_base h.outer h1, fun a ha => Nat.lt_of_lt_of_le (h.top a ha) h2, fun i hi => (by obtain ⟨Ai, ci, a1, a2, a3⟩ := h.row i hi; exact ⟨Ai, ci, a1, own_base a2 h1, fun a ha => Nat.lt_of_lt_of_le (a3 a ha) h2⟩), h.apart⟩

set_option maxHeartbeats 1000000 in
theorem grey_any (p g W H : Nat) (L : List Bool) (w : World) (h : Img w p g W H L) (hW : W ≤ 1000) (hH : H ≤ 1000) :
    Calls Try.prog 72 #[.pointer (some ⟨p, 0, none⟩)] w fun e w' => ∃ A c vs, e = .returned (.agg #[.slice A H c]) ∧ MatAt w' w.heap.size w'.heap.size A c vs (gridI (gf L W H) W H) ∧ Below w.heap.size w w' := by
  have T1 : Blk ((w.alloc (.cells #[.pointer (some ⟨p, 0, none⟩)] 78)).alloc (.cells #[.slice none 0 0] 39)) w.heap.size 78 #[.pointer (some ⟨p, 0, none⟩)] := (Blk.made _ _ _).more _
  have T2 : Blk ((w.alloc (.cells #[.pointer (some ⟨p, 0, none⟩)] 78)).alloc (.cells #[.slice none 0 0] 39)) (w.heap.size + 1) 39 #[.slice none 0 0] := by
    have := Blk.made (w.alloc (.cells #[.pointer (some ⟨p, 0, none⟩)] 78)) 39 #[.slice none 0 0]
    simpa using this
  have B1 : Below w.heap.size w ((w.alloc (.cells #[.pointer (some ⟨p, 0, none⟩)] 78)).alloc (.cells #[.slice none 0 0] 39)) := Ext.more (Ext.more (Ext.refl _) _) _
  have GR := Lib.hid (grid_any p W H _ 130 #[.pointer (some ⟨w.heap.size, 0, none⟩)] (gf L W H) _ (h.ext B1).hdr hW hH enters_grey1 (fun x y hx hy wr hb => (grey1_any p g W H w.heap.size L x y wr ((h.ext B1).ext hb) hW hH (T1.under hb T1.lt)).mono fun e w' ⟨h1, k, h2⟩ => ⟨h1, by rw [h2]; exact Ext.drawN (Ext.refl _) _⟩))
  have hmf : ∀ (fn : Fn) (first cap : Array Value) (w : World), (Instr.makeFunc fn first cap).run Try.prog w = .ok (.func fn first cap) w := fun _ _ _ _ => rfl
  clear h
  go_enter Try.func72, Try.ntmps72
  go_wp2_with fail
  refine GR.out.mono ?_
  rintro e w2 ⟨A2, c2, vs, rfl, hm, hb⟩
  have T3 := T2.under hb T2.lt
  have c0 := T3.cell 0
  have f0 := T3.free 0
  have cs := (T3.store 0 (.slice A2 H c2)).cell 0
  simp at c0 cs
  simp only [World.size_alloc] at hm hb
  have HM := Lib.hid hm
  clear hm GR
  go_wp2_with fail
  refine bodyPost_ret (v := .agg #[.slice A2 H c2]) (by simp [results, Try.results72, go_sem, cs]) rfl ⟨A2, c2, vs, rfl, ?_, ?_⟩
  · have hl := gridI_length (gf L W H) W H
    have hk := HM.out.keep ((Chg.refl (fun b => b < w.heap.size + 1 + 1) w2).store (p := ⟨w.heap.size + 1, 0, none⟩) (by show w.heap.size + 1 < w.heap.size + 1 + 1; omega) (.slice A2 H c2)) (fun b h1 h2 h3 => by omega)
    have hz : (w2.setCell ⟨w.heap.size + 1, 0, none⟩ (.slice A2 H c2)).heap.size = w2.heap.size := by simp [World.setCell]
    rw [hz]
    exact hk.low (by omega) (Nat.le_refl _)
  · exact ((Ext.more (Ext.more (Ext.refl w) (.cells #[.pointer (some ⟨p, 0, none⟩)] 78)) (.cells #[.slice none 0 0] 39)).trans (hb.mono (by omega))).setCell (p := ⟨w.heap.size + 1, 0, none⟩) (by show w.heap.size ≤ w.heap.size + 1; omega) _
end Go.Proofs.Ytdbelajgndclfaa
