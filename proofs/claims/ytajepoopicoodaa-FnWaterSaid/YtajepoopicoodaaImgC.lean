/- Images: made. -/
import Derived.Test.YtajepoopicoodaaImgB
namespace Go.Proofs.Ytajepoopicoodaa
open Go.RowKit

/-- What a picture that is made reads as while it is being made. -/
structure MadeInv (w : World) (W H p g m f : Nat) (fv : Value) (b : Nat → Bool) (k : Nat) (wr : World) : Prop where
  img : Img wr p g W H (bitsTo b k (W * H))
  mv : Blk wr m 120 #[.pointer (some ⟨p, 0, none⟩)]
  fv : Blk wr f 122 #[fv]
  ext : Below w.heap.size w wr

theorem made_inv0 (w : World) (W H : Nat) (fv : Value) (b : Nat → Bool) :
    MadeInv w W H (w.heap.size + 1 + 1) (w.heap.size + 1) (w.heap.size + 1 + 1 + 1) w.heap.size fv b 0 ((((w.alloc (.cells #[fv] 122)).alloc
              (.cells (boolC (List.replicate (W * H) false)) 4)).alloc (.cells #[.int .i64 W, .int .i64 H, .slice (some ⟨w.heap.size + 1, 0, none⟩) (W * H) (W * H)] 147)).alloc (.cells #[.pointer (some ⟨w.heap.size + 1 + 1, 0, none⟩)] 120)) := by
  have hw := blank_img (w.alloc (.cells #[fv] 122)) W H
  simp only [World.size_alloc] at hw
  refine ⟨?_, ?_, (((Blk.made _ _ _).more _).more _).more _, Ext.more (Ext.more (Ext.more (Ext.more (Ext.refl _) _) _) _) _⟩
  · rw [bitsTo_zero]; exact ⟨hw.hdr.more _, hw.bits.more _, hw.len⟩
  · have := Blk.made (((w.alloc (.cells #[fv] 122)).alloc (.cells (boolC (List.replicate (W * H) false)) 4)).alloc (.cells #[.int .i64 W, .int .i64 H, .slice (some ⟨w.heap.size + 1, 0, none⟩) (W * H) (W * H)] 147)) 120 #[.pointer (some ⟨w.heap.size + 1 + 1, 0, none⟩)]
    simpa using this

/-- A round of made. -/
theorem made_step {w : World} {W H p g m f : Nat} {K : FuncId} {caps : Array Value} {b : Nat → Bool} (hW : W ≤ 1000) (hH : H ≤ 1000) (hK : Enters K) (hg : w.heap.size ≤ g)
    (hB : ∀ (x y : Nat), x < W → y < H → ∀ wr, Below w.heap.size w wr → Calls Try.prog K (#[.int .i64 x, .int .i64 y] ++ caps) wr fun e w' => e = .returned (.bool (b (y * W + x))) ∧ Below wr.heap.size wr w')
    (x y : Nat) (hx : x < W) (hy : y < H) (wr : World) (h : MadeInv w W H p g m f (.func (.func K) #[] caps) b (y * W + x) wr) :
    Calls Try.prog 122 (#[.int .i64 x, .int .i64 y] ++ #[.pointer (some ⟨m, 0, none⟩), .pointer (some ⟨f, 0, none⟩)]) wr fun e w' => e = .returned (.tuple #[]) ∧ MadeInv w W H p g m f (.func (.func K) #[] caps) b (y * W + x + 1) w' := by
  refine (made1_any p g W H m f _ K caps x y (b (y * W + x)) wr h.img hW hH hx hy h.mv h.fv hK (fun wr' hb => hB x y hx hy wr' (Ext.then_ h.ext hb))).mono ?_
  rintro e w' ⟨rfl, w1, hb, rfl⟩
  refine ⟨rfl, ?_, ?_, ?_, ?_⟩
  · have := (h.img.ext hb).put (y * W + x) (b (y * W + x))
    rw [bitsTo_succ] at this
    exact this.drewN 1
  · exact (h.mv.under hb h.mv.lt).apart (p := ⟨g, _, none⟩) (fun e => h.img.bits.ne h.mv (by decide) e.symm) _
  · exact (h.fv.under hb h.fv.lt).apart (p := ⟨g, _, none⟩) (fun e => h.img.bits.ne h.fv (by decide) e.symm) _
  · exact ((Ext.then_ h.ext hb).setCell (p := ⟨g, _, none⟩) hg _).drew

set_option maxRecDepth 100000 in
set_option maxHeartbeats 1000000 in
theorem made_any (W H : Nat) (K : FuncId) (caps : Array Value) (b : Nat → Bool) (w : World) (hW : W ≤ 1000) (hH : H ≤ 1000) (hK : Enters K)
    (hB : ∀ (x y : Nat), x < W → y < H → ∀ wr, Below w.heap.size w wr → Calls Try.prog K (#[.int .i64 x, .int .i64 y] ++ caps) wr fun e w' => e = .returned (.bool (b (y * W + x))) ∧ Below wr.heap.size wr w') :
    Calls Try.prog 100 #[.int .i64 W, .int .i64 H, .func (.func K) #[] caps] w fun e w' => ∃ p g, e = .returned (.pointer (some ⟨p, 0, none⟩)) ∧
      Img w' p g W H ((List.range (W * H)).map b) ∧ w.heap.size ≤ p ∧ w.heap.size ≤ g ∧ Below w.heap.size w w' := by
  have I0 := made_inv0 w W H (.func (.func K) #[] caps) b
  have E := Lib.hid (each_any (w.heap.size + 1 + 1) W H (.slice (some ⟨w.heap.size + 1, 0, none⟩) (W * H) (W * H)) 122 #[.pointer (some ⟨w.heap.size + 1 + 1 + 1, 0, none⟩), .pointer (some ⟨w.heap.size, 0, none⟩)]
    (MadeInv w W H (w.heap.size + 1 + 1) (w.heap.size + 1) (w.heap.size + 1 + 1 + 1) w.heap.size (.func (.func K) #[] caps) b) _ hW hH (fun _ _ h => h.img.hdr) (fun x y hx hy wr h => made_step hW hH hK (by omega) hB x y hx hy wr h) I0 enters_made1)
  clear hB hK I0
  have hmf : ∀ (fn : Fn) (first cap : Array Value) (w : World), (Instr.makeFunc fn first cap).run Try.prog w = .ok (.func fn first cap) w := fun _ _ _ _ => rfl
  go_enter Try.func100, Try.ntmps100
  go_wp2_with fail
  refine (blank_any W H _ hW hH).mono ?_
  rintro e w' ⟨rfl, rfl⟩
  go_wp2_with fail
  refine E.out.mono ?_
  rintro e w' ⟨rfl, hI⟩
  have c0 := hI.mv.cell 0
  simp at c0
  have R := Lib.hid hI
  clear hI E
  go_wp2_with fail
  go_ret
  refine ⟨_, w.heap.size + 1, rfl, ?_, by omega, by omega, R.out.ext⟩
  have := R.out.img
  rwa [bitsTo_all] at this
end Go.Proofs.Ytajepoopicoodaa
