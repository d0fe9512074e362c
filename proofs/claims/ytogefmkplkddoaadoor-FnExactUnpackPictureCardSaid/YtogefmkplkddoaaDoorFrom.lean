/- From residues: the program's. -/
import Derived.Test.YtogefmkplkddoaaDoorRes
import Derived.Test.YtogefmkplkddoaaDoorHQ
namespace Go.Proofs.YtogefmkplkddoaaDoor
open Go.RowKit

def rowX (L : List Bool) (W y : Nat) : Nat → Bool
  | 0 => false
  | x + 1 => rowX L W y x != L.getD (y * W + x) false
/-- The pixel at x, y that comes from a residue. -/
def frF (L : List Bool) (W x : Nat) : Nat → Bool
  | 0 => rowX L W 0 (x + 1)
  | y + 1 => rowX L W (y + 1) (x + 1) != frF L W x y
def frB (L : List Bool) (W i : Nat) : Bool := frF L W (i % W) (i / W)
def frL (L : List Bool) (W H : Nat) : List Bool := (List.range (W * H)).map (frB L W)
theorem frB_at {L : List Bool} {W x y : Nat} (hx : x < W) : frB L W (y * W + x) = frF L W x y := by rw [frB, divW hx, modW hx]
/-- The pixel before, in a list that is known up to it. -/
theorem bit_to {b : Nat → Bool} {W H x y k : Nat} (hx : x < W) (hy : y < H) (hk : y * W + x < k) : bit (bitsTo b k (W * H)) W H x y = b (y * W + x) := by
  rw [bit_in hx hy]
  have hb : y * W + x < W * H := by
    have : y * W + W ≤ W * H := by rw [Nat.mul_comm W H, ← Nat.succ_mul]; exact Nat.mul_le_mul_right _ hy
    omega
  simp [bitsTo, List.getD_eq_getElem?_getD, hb, hk]
theorem bit_left {L : List Bool} {W H : Nat} (y : Int) : bit L W H (-1) y = false := by simp [bit]
theorem bit_over {L : List Bool} {W H : Nat} (x : Int) : bit L W H x (-1) = false := by simp [bit]
theorem fr_step (L : List Bool) (W H x y : Nat) (hx : x < W) (hy : y < H) :
    ((bit L W H x y != bit (bitsTo (frB L W) (y * W + x) (W * H)) W H ((x : Int) - 1) y) != (bit (bitsTo (frB L W) (y * W + x) (W * H)) W H x ((y : Int) - 1) != bit (bitsTo (frB L W) (y * W + x) (W * H)) W H ((x : Int) - 1) ((y : Int) - 1))) = frB L W (y * W + x) := by
  rw [frB_at hx, bit_in hx hy]
  cases x with
  | zero =>
    have e1 : ((0 : Nat) : Int) - 1 = -1 := rfl
    rw [e1, bit_left, bit_left]
    cases y with
    | zero =>
      have e2 : ((0 : Nat) : Int) - 1 = -1 := rfl
      rw [e2, bit_over]; simp [frF, rowX]
    | succ y =>
      have e2 : ((y + 1 : Nat) : Int) - 1 = (y : Int) := by omega
      rw [e2, bit_to hx (by omega) (by rw [Nat.add_mul]; omega), frB_at hx]
      simp [frF, rowX]
  | succ x =>
    have e1 : ((x + 1 : Nat) : Int) - 1 = (x : Int) := by omega
    rw [e1, bit_to (x := x) (by omega) hy (by omega), frB_at (x := x) (by omega)]
    cases y with
    | zero =>
      have e2 : ((0 : Nat) : Int) - 1 = -1 := rfl
      rw [e2, bit_over, bit_over]
      simp only [frF, rowX]
      generalize L.getD _ false = a
      generalize L.getD _ false = b
      generalize rowX L W 0 x = c
      revert a b c; decide
    | succ y =>
      have e2 : ((y + 1 : Nat) : Int) - 1 = (y : Int) := by omega
      rw [e2, bit_to (x := x + 1) (by omega) (by omega) (by rw [Nat.add_mul]; omega), bit_to (x := x) (y := y) (by omega) (by omega) (by rw [Nat.add_mul]; omega), frB_at hx, frB_at (x := x) (by omega)]
      simp only [frF, rowX]
      generalize L.getD _ false = a
      generalize L.getD _ false = b
      generalize rowX L W (y + 1) x = c
      generalize frF L W x y = d
      generalize frF L W (x + 1) y = e
      revert a b c d e; decide

theorem enters_from1 : Enters 88 := enters_of Tryd.func88 (by kernel_rfl) (by kernel_rfl)
theorem enters_from : Enters 51 := enters_of Tryd.func51 (by kernel_rfl) (by kernel_rfl)

/-- What is known while a picture comes from a residue. -/
structure FromInv (w : World) (p g W H : Nat) (L : List Bool) (p' g' tm to' k : Nat) (wr : World) : Prop where
  img : Img wr p g W H L
  out : Img wr p' g' W H (bitsTo (frB L W) k (W * H))
  tm : Blk wr tm 67 #[.pointer (some ⟨p, 0, none⟩)]
  tout : Blk wr to' 67 #[.pointer (some ⟨p', 0, none⟩)]
  low : g < w.heap.size
  ext : Below w.heap.size w wr

set_option maxRecDepth 100000 in
set_option maxHeartbeats 1000000 in
theorem from1_any (w : World) (p g W H : Nat) (L : List Bool) (p' g' tm to' x y : Nat) (wr : World) (hI : FromInv w p g W H L p' g' tm to' (y * W + x) wr) (hg' : w.heap.size ≤ g') (hW : W ≤ 1000) (hH : H ≤ 1000) (hx : x < W) (hy : y < H) :
    Calls Tryd.prog 88 #[.int .i64 x, .int .i64 y, .pointer (some ⟨to', 0, none⟩), .pointer (some ⟨tm, 0, none⟩)] wr fun e w' => e = .returned (.tuple #[]) ∧ FromInv w p g W H L p' g' tm to' (y * W + x + 1) w' := by
  have c0 := hI.tm.cell 0
  have c1 := hI.tout.cell 0
  simp at c0 c1
  have i1 : IntKind.i64.wrap ((x : Int) - 1) = (x : Int) - 1 := IntWalk.i64_in _ (by omega)
  have i2 : IntKind.i64.wrap ((y : Int) - 1) = (y : Int) - 1 := IntWalk.i64_in _ (by omega)
  have ST := Lib.hid (fr_step L W H x y hx hy)
  go_enter Tryd.func88, Tryd.ntmps88
  go_wp2_with fail

  refine wp_region_quiet_tail 26 (by kernel_rfl) (by kernel_rfl) ?_
  simp only [List.take_succ_cons, List.take_zero, List.drop_succ_cons, List.drop_zero]
  repeat (go_big_quiet_step (first
      | (go_at_call_of 90 (Value.pointer (some ⟨p, 0, none⟩)); exact Calls.quiet_of (get_any p g W H L _ _ _ (hI.img.drewN _) hW hH))
      | (go_at_call_of 90 (Value.pointer (some ⟨p', 0, none⟩)); exact Calls.quiet_of (get_any p' g' W H _ _ _ _ (hI.out.drewN _) hW hH))))
  refine wpQuiet_nil ?_
  intro _ hw'
  obtain ⟨nq, hw''⟩ := hw'
  subst hw''
  go_wp2_with (go_at_call 89; refine (set_any p' g' W H _ x y _ _ (hI.out.drewN _) hW hH hx hy).mono ?_; rintro e w' ⟨rfl, rfl⟩)
  go_end0
  have S := ST.out
  simp only [bne] at S
  rw [S]
  refine ⟨rfl, ?_, ?_, ?_, ?_, hI.low, ?_⟩
  · have := hI.low
    exact ⟨(hI.img.drewN nq).hdr.apart (p := ⟨g', _, none⟩) (fun e => hI.img.hdr.ne hI.out.bits (by decide) e) _, (hI.img.drewN nq).bits.apart (p := ⟨g', _, none⟩) (by show g ≠ g'; omega) _, hI.img.len⟩
  · have := ((hI.out.drewN nq).put (y * W + x) (frB L W (y * W + x)))
    rw [bitsTo_succ] at this
    exact this.drewN 1
  · exact hI.tm.apart (p := ⟨g', _, none⟩) (fun e => hI.tm.ne hI.out.bits (by decide) e) _
  · exact hI.tout.apart (p := ⟨g', _, none⟩) (fun e => hI.tout.ne hI.out.bits (by decide) e) _
  · exact ((Ext.drawN hI.ext nq).setCell (p := ⟨g', _, none⟩) hg' _).drew

theorem from_inv0 (w : World) (p g W H : Nat) (L : List Bool) (h : Img w p g W H L) :
    FromInv w p g W H L (w.heap.size + 1 + 1) (w.heap.size + 1) w.heap.size (w.heap.size + 1 + 1 + 1) 0 ((((w.alloc (.cells #[.pointer (some ⟨p, 0, none⟩)] 67)).alloc
              (.cells (boolC (List.replicate (W * H) false)) 4)).alloc (.cells #[.int .i64 W, .int .i64 H, .slice (some ⟨w.heap.size + 1, 0, none⟩) (W * H) (W * H)] 70)).alloc (.cells #[.pointer (some ⟨w.heap.size + 1 + 1, 0, none⟩)] 67)) := by
  have hw := blank_img (w.alloc (.cells #[.pointer (some ⟨p, 0, none⟩)] 67)) W H
  simp only [World.size_alloc] at hw
  refine ⟨h.ext (Ext.more (Ext.more (Ext.more (Ext.more (Ext.refl _) _) _) _) _), ?_, (((Blk.made _ _ _).more _).more _).more _, ?_, h.bits.lt, Ext.more (Ext.more (Ext.more (Ext.more (Ext.refl _) _) _) _) _⟩
  · rw [bitsTo_zero]; exact ⟨hw.hdr.more _, hw.bits.more _, hw.len⟩
  · have := Blk.made (((w.alloc (.cells #[.pointer (some ⟨p, 0, none⟩)] 67)).alloc (.cells (boolC (List.replicate (W * H) false)) 4)).alloc (.cells #[.int .i64 W, .int .i64 H, .slice (some ⟨w.heap.size + 1, 0, none⟩) (W * H) (W * H)] 70)) 67 #[.pointer (some ⟨w.heap.size + 1 + 1, 0, none⟩)]
    simpa using this

theorem from_inv1 (w : World) (p g W H : Nat) (L : List Bool) (h : Img w p g W H L) :
    FromInv w p g W H L (w.heap.size + 1 + 1 + 1) (w.heap.size + 1 + 1) w.heap.size (w.heap.size + 1) 0 ((((w.alloc (.cells #[.pointer (some ⟨p, 0, none⟩)] 67)).alloc (.cells #[.pointer (some ⟨w.heap.size + 1 + 1 + 1, 0, none⟩)] 67)).alloc
              (.cells (boolC (List.replicate (W * H) false)) 4)).alloc (.cells #[.int .i64 W, .int .i64 H, .slice (some ⟨w.heap.size + 1 + 1, 0, none⟩) (W * H) (W * H)] 70)) := by
  have hw := blank_img ((w.alloc (.cells #[.pointer (some ⟨p, 0, none⟩)] 67)).alloc (.cells #[.pointer (some ⟨w.heap.size + 1 + 1 + 1, 0, none⟩)] 67)) W H
  simp only [World.size_alloc] at hw
  refine ⟨h.ext (Ext.more (Ext.more (Ext.more (Ext.more (Ext.refl _) _) _) _) _), ?_, (((Blk.made _ _ _).more _).more _).more _, ?_, h.bits.lt, Ext.more (Ext.more (Ext.more (Ext.more (Ext.refl _) _) _) _) _⟩
  · rw [bitsTo_zero]; exact hw
  · have := ((Blk.made (w.alloc (.cells #[.pointer (some ⟨p, 0, none⟩)] 67)) 67 #[.pointer (some ⟨w.heap.size + 1 + 1 + 1, 0, none⟩)]).more (.cells (boolC (List.replicate (W * H) false)) 4)).more (.cells #[.int .i64 W, .int .i64 H, .slice (some ⟨w.heap.size + 1 + 1, 0, none⟩) (W * H) (W * H)] 70)
    simpa using this
theorem FromInv.drew {w wr : World} {p g W H p' g' tm to' k : Nat} {L : List Bool} (h : FromInv w p g W H L p' g' tm to' k wr) : FromInv w p g W H L p' g' tm to' k wr.drew :=
  ⟨h.img.drewN 1, h.out.drewN 1, h.tm, h.tout, h.low, Ext.drawN h.ext 1⟩
theorem from_each {w V : World} {p g W H p' g' tm to' : Nat} {L : List Bool} (h : FromInv w p g W H L p' g' tm to' 0 V) (hg' : w.heap.size ≤ g') (hW : W ≤ 1000) (hH : H ≤ 1000) :
    Calls Tryd.prog 87 #[.pointer (some ⟨p', 0, none⟩), .func (.func 88) #[] #[.pointer (some ⟨to', 0, none⟩), .pointer (some ⟨tm, 0, none⟩)]] V fun e w' => e = .returned (.tuple #[]) ∧ FromInv w p g W H L p' g' tm to' (W * H) w' :=
  each_any p' W H (.slice (some ⟨g', 0, none⟩) (W * H) (W * H)) 88 _ (FromInv w p g W H L p' g' tm to') V hW hH (fun _ _ h => h.out.hdr) (fun x y hx hy wr h => from1_any w p g W H L p' g' tm to' x y wr h hg' hW hH hx hy) h enters_from1

set_option maxRecDepth 100000 in
set_option maxHeartbeats 1000000 in
theorem from_any (p g W H : Nat) (L : List Bool) (w : World) (h : Img w p g W H L) (hW : W ≤ 1000) (hH : H ≤ 1000) :
    Calls Tryd.prog 51 #[.pointer (some ⟨p, 0, none⟩)] w fun e w' => (∃ p' g', e = .returned (.pointer (some ⟨p', 0, none⟩)) ∧ Img w' p' g' W H (frL L W H)) ∧ Below w.heap.size w w' := by
  have c0 := h.hdr.cell 0
  have c1 := h.hdr.cell 1
  simp at c0 c1
  have hp := h.hdr.lt
  have hmf : ∀ (fn : Fn) (first cap : Array Value) (w : World), (Instr.makeFunc fn first cap).run Tryd.prog w = .ok (.func fn first cap) w := fun _ _ _ _ => rfl
  go_enter Tryd.func51, Tryd.ntmps51
  go_wp2_with fail
  go_region_held3 (fun w' => w'.cell? ⟨w.heap.size, 0, none⟩ = some (.pointer (some ⟨p, 0, none⟩)) ∧ w'.cell? ⟨p, 0, none⟩ = some (.int .i64 W) ∧ w'.cell? ⟨p, 1, none⟩ = some (.int .i64 H))
    (first | ((go_split_ands; refine ⟨?_, ?_, ?_⟩ <;> (repeat (first | exact c0 | exact c1 | exact cell_new _ _ _ _ | with_reducible refine cell_drewN ?_ | with_reducible refine cell_drew ?_ | with_reducible refine cell_more (by first | omega | (simp; omega) | simp) ?_)); done)) | go_keep)
    (first | (go_at_call 50; refine (blank_any W H _ hW hH).mono ?_; rintro e w' ⟨rfl, rfl⟩))
  · have I0 := (from_inv0 w p g W H L h).drew
    generalize ((((w.alloc (.cells #[.pointer (some ⟨p, 0, none⟩)] 67)).alloc (.cells (boolC (List.replicate (W * H) false)) 4)).alloc (.cells #[.int .i64 W, .int .i64 H, .slice (some ⟨w.heap.size + 1, 0, none⟩) (W * H) (W * H)] 70)).alloc (.cells #[.pointer (some ⟨w.heap.size + 1 + 1, 0, none⟩)] 67)).drew = V at *
    have E := Lib.hid (from_each I0 (by omega) hW hH)
    have cO := I0.tout.cell 0
    simp at cO
    go_wp2_with fail
    refine E.out.mono ?_
    rintro e w' ⟨rfl, hI⟩
    have cE := hI.tout.cell 0
    simp at cE
    have HI := Lib.hid hI
    clear hI E I0
    go_wp2_with fail
    go_ret
    have := HI.out.out
    rw [bitsTo_all] at this
    exact ⟨⟨_, _, rfl, this⟩, HI.out.ext⟩
  · have I0 := (from_inv1 w p g W H L h).drew
    generalize ((((w.alloc (.cells #[.pointer (some ⟨p, 0, none⟩)] 67)).alloc (.cells #[.pointer (some ⟨w.heap.size + 1 + 1 + 1, 0, none⟩)] 67)).alloc (.cells (boolC (List.replicate (W * H) false)) 4)).alloc (.cells #[.int .i64 W, .int .i64 H, .slice (some ⟨w.heap.size + 1 + 1, 0, none⟩) (W * H) (W * H)] 70)).drew = V at *
    have E := Lib.hid (from_each I0 (by omega) hW hH)
    have cO := I0.tout.cell 0
    simp at cO
    go_wp2_with fail
    refine E.out.mono ?_
    rintro e w' ⟨rfl, hI⟩
    have cE := hI.tout.cell 0
    simp at cE
    have HI := Lib.hid hI
    clear hI E I0
    go_wp2_with fail
    go_ret
    have := HI.out.out
    rw [bitsTo_all] at this
    exact ⟨⟨_, _, rfl, this⟩, HI.out.ext⟩
end Go.Proofs.YtogefmkplkddoaaDoor
