/- Residues: the program's. From residues: the program's. The reference's residues. The reference's pictures from residues. Plain: a residue and what comes from it undo each other. -/
import Derived.Test.YtogefmkplkddoaaDoorWith
import Derived.Test.YtogefmkplkddoaaDoorHQ
import Derived.Test.YtogefmkplkddoaaDoorTldP
import Derived.Test.YtogefmkplkddoaaDoorSMake
namespace Go.Proofs.YtogefmkplkddoaaDoor
open Go.RowKit

def resB (L : List Bool) (W H : Nat) (x y : Int) : Bool := (bit L W H x y != bit L W H (x - 1) y) != (bit L W H x (y - 1) != bit L W H (x - 1) (y - 1))
def resL (L : List Bool) (W H : Nat) : List Bool := (List.range (W * H)).map fun i => resB L W H ((i % W : Nat) : Int) ((i / W : Nat) : Int)
theorem divW {W x y : Nat} (hx : x < W) : (y * W + x) / W = y := by
  rw [Nat.mul_comm, Nat.mul_add_div (by omega), Nat.div_eq_of_lt hx]; omega
theorem modW {W x y : Nat} (hx : x < W) : (y * W + x) % W = x := by
  rw [Nat.mul_comm, Nat.mul_add_mod, Nat.mod_eq_of_lt hx]
theorem enters_res1 : Enters 108 := enters_of Tryd.func108 (by kernel_rfl) (by kernel_rfl)
theorem enters_res : Enters 92 := enters_of Tryd.func92 (by kernel_rfl) (by kernel_rfl)

set_option maxRecDepth 100000 in
set_option maxHeartbeats 1000000 in
theorem res1_any (p g W H t : Nat) (L : List Bool) (x y : Nat) (w : World) (h : Img w p g W H L) (hW : W ≤ 1000) (hH : H ≤ 1000) (hx : x < W) (hy : y < H) (ht : Blk w t 67 #[.pointer (some ⟨p, 0, none⟩)]) :
    Calls Tryd.prog 108 #[.int .i64 x, .int .i64 y, .pointer (some ⟨t, 0, none⟩)] w fun e w' => e = .returned (.bool (resB L W H x y)) ∧ ∃ k, w' = w.drewN k := by
  have c0 := ht.cell 0
  simp at c0
  have i1 : IntKind.i64.wrap ((x : Int) - 1) = (x : Int) - 1 := IntWalk.i64_in _ (by omega)
  have i2 : IntKind.i64.wrap ((y : Int) - 1) = (y : Int) - 1 := IntWalk.i64_in _ (by omega)
  go_enter Tryd.func108, Tryd.ntmps108
  go_wp2_with fail
  go_quiet ((go_at_call 90; exact Calls.quiet_of (get_any p g W H L _ _ _ (h.drewN _) hW hH)))
  clear i1 i2
  go_wp2_with fail
  go_ret
  exact ⟨rfl, _, rfl⟩

set_option maxRecDepth 100000 in
set_option maxHeartbeats 1000000 in
theorem residue_any (p g W H : Nat) (L : List Bool) (w : World) (h : Img w p g W H L) (hW : W ≤ 1000) (hH : H ≤ 1000) :
    Calls Tryd.prog 92 #[.pointer (some ⟨p, 0, none⟩)] w fun e w' => (∃ p' g', e = .returned (.pointer (some ⟨p', 0, none⟩)) ∧ Img w' p' g' W H (resL L W H)) ∧ Below w.heap.size w w' := by
  have c0 := h.hdr.cell 0
  have c1 := h.hdr.cell 1
  simp at c0 c1
  have hp := h.hdr.lt
  have M : Hid (∀ V : World, Below w.heap.size w V → Blk V w.heap.size 67 #[.pointer (some ⟨p, 0, none⟩)] → Calls Tryd.prog 107 #[.int .i64 W, .int .i64 H, .func (.func 108) #[] #[.pointer (some ⟨w.heap.size, 0, none⟩)]] V fun e w' => ∃ p g, e = .returned (.pointer (some ⟨p, 0, none⟩)) ∧
      Img w' p g W H (resL L W H) ∧ V.heap.size ≤ p ∧ V.heap.size ≤ g ∧ Below V.heap.size V w') := by
    intro V hb hB
    refine made_any W H 108 #[.pointer (some ⟨w.heap.size, 0, none⟩)] (fun i => resB L W H ((i % W : Nat) : Int) ((i / W : Nat) : Int)) V hW hH enters_res1 ?_
    intro x y hx hy wr hwr
    refine (res1_any p g W H w.heap.size L x y wr (h.ext (hb.trans (hwr.mono hb.size))) hW hH hx hy (hB.under hwr hB.lt)).mono ?_
    rintro e w' ⟨rfl, k, rfl⟩
    simp only [divW hx, modW hx]
    exact ⟨trivial, Ext.drawN (Ext.refl _) _⟩
  have hmf : ∀ (fn : Fn) (first cap : Array Value) (w : World), (Instr.makeFunc fn first cap).run Tryd.prog w = .ok (.func fn first cap) w := fun _ _ _ _ => rfl
  have B0 := Blk.made w 67 #[.pointer (some ⟨p, 0, none⟩)]
  have B1 : Below w.heap.size w (w.alloc (.cells #[.pointer (some ⟨p, 0, none⟩)] 67)) := Ext.more (Ext.refl _) _
  go_enter Tryd.func92, Tryd.ntmps92
  go_wp2_with fail
  go_region_held3 (fun w' => w'.cell? ⟨w.heap.size, 0, none⟩ = some (.pointer (some ⟨p, 0, none⟩)) ∧ w'.cell? ⟨p, 0, none⟩ = some (.int .i64 W) ∧ w'.cell? ⟨p, 1, none⟩ = some (.int .i64 H))
    (first | ((go_split_ands; refine ⟨?_, ?_, ?_⟩ <;> exact (hb'.cell (p := ⟨_, _, none⟩) (by first | omega | (simp; omega) | simp)).trans (by assumption))) | (simp [go_sem, World.cell?_alloc_past, hp, c0, c1]))
    (first | (go_at_call 107; refine (M.out _ B1.drew B0).mono ?_; rintro e w' ⟨p', g', rfl, hm', hp', hg', hb'⟩))
  go_wp2_with fail
  go_ret
  exact ⟨⟨p', g', rfl, hm'⟩, Ext.then_ B1.drew hb'⟩
end Go.Proofs.YtogefmkplkddoaaDoor

namespace Go.Proofs.YtogefmkplkddoaaDoor
open Go.RowKit

def rowX (L : List Bool) (W y : Nat) : Nat → Bool
  | 0 => false
  | x + 1 => rowX L W y x != L.getD (y * W + x) false
/-- The pixel at x, y that comes from a residue. -/
def frF (L : List Bool) (W x : Nat) : Nat → Bool
  | 0 => rowX L W 0 (x + 1)
  | y + 1 => rowX L W (y + 1) (x + 1) != frF L W x y
def frB (L : List Bool) (W i : Nat) : Bool := frF L W (i % W) (i / W)
def frL (L : List Bool) (W H : Nat) : List Bool := (List.range (W * H)).map (frB L W)
theorem frB_at {L : List Bool} {W x y : Nat} (hx : x < W) : frB L W (y * W + x) = frF L W x y := by rw [frB, divW hx, modW hx]
/-- The pixel before, in a list that is known up to it. -/
theorem bit_to {b : Nat → Bool} {W H x y k : Nat} (hx : x < W) (hy : y < H) (hk : y * W + x < k) : bit (bitsTo b k (W * H)) W H x y = b (y * W + x) := by
  rw [bit_in hx hy]
  have hb : y * W + x < W * H := by
    have : y * W + W ≤ W * H := by rw [Nat.mul_comm W H, ← Nat.succ_mul]; exact Nat.mul_le_mul_right _ hy
    omega
  simp [bitsTo, List.getD_eq_getElem?_getD, hb, hk]
theorem bit_left {L : List Bool} {W H : Nat} (y : Int) : bit L W H (-1) y = false := by simp [bit]
theorem bit_over {L : List Bool} {W H : Nat} (x : Int) : bit L W H x (-1) = false := by simp [bit]
theorem fr_step (L : List Bool) (W H x y : Nat) (hx : x < W) (hy : y < H) :
    ((bit L W H x y != bit (bitsTo (frB L W) (y * W + x) (W * H)) W H ((x : Int) - 1) y) != (bit (bitsTo (frB L W) (y * W + x) (W * H)) W H x ((y : Int) - 1) != bit (bitsTo (frB L W) (y * W + x) (W * H)) W H ((x : Int) - 1) ((y : Int) - 1))) = frB L W (y * W + x) := by
  rw [frB_at hx, bit_in hx hy]
  cases x with
  | zero =>
    have e1 : ((0 : Nat) : Int) - 1 = -1 := rfl
    rw [e1, bit_left, bit_left]
    cases y with
    | zero =>
      have e2 : ((0 : Nat) : Int) - 1 = -1 := rfl
      rw [e2, bit_over]; simp [frF, rowX]
    | succ y =>
      have e2 : ((y + 1 : Nat) : Int) - 1 = (y : Int) := by omega
      rw [e2, bit_to hx (by omega) (by rw [Nat.add_mul]; omega), frB_at hx]
      simp [frF, rowX]
  | succ x =>
    have e1 : ((x + 1 : Nat) : Int) - 1 = (x : Int) := by omega
    rw [e1, bit_to (x := x) (by omega) hy (by omega), frB_at (x := x) (by omega)]
    cases y with
    | zero =>
      have e2 : ((0 : Nat) : Int) - 1 = -1 := rfl
      rw [e2, bit_over, bit_over]
      simp only [frF, rowX]
      generalize L.getD _ false = a
      generalize L.getD _ false = b
      generalize rowX L W 0 x = c
      revert a b c; decide
    | succ y =>
      have e2 : ((y + 1 : Nat) : Int) - 1 = (y : Int) := by omega
      rw [e2, bit_to (x := x + 1) (by omega) (by omega) (by rw [Nat.add_mul]; omega), bit_to (x := x) (y := y) (by omega) (by omega) (by rw [Nat.add_mul]; omega), frB_at hx, frB_at (x := x) (by omega)]
      simp only [frF, rowX]
      generalize L.getD _ false = a
      generalize L.getD _ false = b
      generalize rowX L W (y + 1) x = c
      generalize frF L W x y = d
      generalize frF L W (x + 1) y = e
      revert a b c d e; decide

theorem enters_from1 : Enters 88 := enters_of Tryd.func88 (by kernel_rfl) (by kernel_rfl)
theorem enters_from : Enters 51 := enters_of Tryd.func51 (by kernel_rfl) (by kernel_rfl)

/-- What is known while a picture comes from a residue. -/
structure FromInv (w : World) (p g W H : Nat) (L : List Bool) (p' g' tm to' k : Nat) (wr : World) : Prop where
  img : Img wr p g W H L
  out : Img wr p' g' W H (bitsTo (frB L W) k (W * H))
  tm : Blk wr tm 67 #[.pointer (some ⟨p, 0, none⟩)]
  tout : Blk wr to' 67 #[.pointer (some ⟨p', 0, none⟩)]
  low : g < w.heap.size
  ext : Below w.heap.size w wr

set_option maxRecDepth 100000 in
set_option maxHeartbeats 1000000 in
theorem from1_any (w : World) (p g W H : Nat) (L : List Bool) (p' g' tm to' x y : Nat) (wr : World) (hI : FromInv w p g W H L p' g' tm to' (y * W + x) wr) (hg' : w.heap.size ≤ g') (hW : W ≤ 1000) (hH : H ≤ 1000) (hx : x < W) (hy : y < H) :
    Calls Tryd.prog 88 #[.int .i64 x, .int .i64 y, .pointer (some ⟨to', 0, none⟩), .pointer (some ⟨tm, 0, none⟩)] wr fun e w' => e = .returned (.tuple #[]) ∧ FromInv w p g W H L p' g' tm to' (y * W + x + 1) w' := by
  have c0 := hI.tm.cell 0
  have c1 := hI.tout.cell 0
  simp at c0 c1
  have i1 : IntKind.i64.wrap ((x : Int) - 1) = (x : Int) - 1 := IntWalk.i64_in _ (by omega)
  have i2 : IntKind.i64.wrap ((y : Int) - 1) = (y : Int) - 1 := IntWalk.i64_in _ (by omega)
  have ST := Lib.hid (fr_step L W H x y hx hy)
  go_enter Tryd.func88, Tryd.ntmps88
  go_wp2_with fail

  refine wp_region_quiet_tail 26 (by kernel_rfl) (by kernel_rfl) ?_
  simp only [List.take_succ_cons, List.take_zero, List.drop_succ_cons, List.drop_zero]
  repeat (go_big_quiet_step (first
      | (go_at_call_of 90 (Value.pointer (some ⟨p, 0, none⟩)); exact Calls.quiet_of (get_any p g W H L _ _ _ (hI.img.drewN _) hW hH))
      | (go_at_call_of 90 (Value.pointer (some ⟨p', 0, none⟩)); exact Calls.quiet_of (get_any p' g' W H _ _ _ _ (hI.out.drewN _) hW hH))))
  refine wpQuiet_nil ?_
  intro _ hw'
  obtain ⟨nq, hw''⟩ := hw'
  subst hw''
  go_wp2_with (go_at_call 89; refine (set_any p' g' W H _ x y _ _ (hI.out.drewN _) hW hH hx hy).mono ?_; rintro e w' ⟨rfl, rfl⟩)
  go_end0
  have S := ST.out
  simp only [bne] at S
  rw [S]
  refine ⟨rfl, ?_, ?_, ?_, ?_, hI.low, ?_⟩
  · have := hI.low
    exact ⟨(hI.img.drewN nq).hdr.apart (p := ⟨g', _, none⟩) (fun e => hI.img.hdr.ne hI.out.bits (by decide) e) _, (hI.img.drewN nq).bits.apart (p := ⟨g', _, none⟩) (by show g ≠ g'; omega) _, hI.img.len⟩
  · have := ((hI.out.drewN nq).put (y * W + x) (frB L W (y * W + x)))
    rw [bitsTo_succ] at this
    exact this.drewN 1
  · exact hI.tm.apart (p := ⟨g', _, none⟩) (fun e => hI.tm.ne hI.out.bits (by decide) e) _
  · exact hI.tout.apart (p := ⟨g', _, none⟩) (fun e => hI.tout.ne hI.out.bits (by decide) e) _
  · exact ((Ext.drawN hI.ext nq).setCell (p := ⟨g', _, none⟩) hg' _).drew

theorem from_inv0 (w : World) (p g W H : Nat) (L : List Bool) (h : Img w p g W H L) :
    FromInv w p g W H L (w.heap.size + 1 + 1) (w.heap.size + 1) w.heap.size (w.heap.size + 1 + 1 + 1) 0 ((((w.alloc (.cells #[.pointer (some ⟨p, 0, none⟩)] 67)).alloc
              (.cells (boolC (List.replicate (W * H) false)) 4)).alloc (.cells #[.int .i64 W, .int .i64 H, .slice (some ⟨w.heap.size + 1, 0, none⟩) (W * H) (W * H)] 70)).alloc (.cells #[.pointer (some ⟨w.heap.size + 1 + 1, 0, none⟩)] 67)) := by
  have hw := blank_img (w.alloc (.cells #[.pointer (some ⟨p, 0, none⟩)] 67)) W H
  simp only [World.size_alloc] at hw
  refine ⟨h.ext (Ext.more (Ext.more (Ext.more (Ext.more (Ext.refl _) _) _) _) _), ?_, (((Blk.made _ _ _).more _).more _).more _, ?_, h.bits.lt, Ext.more (Ext.more (Ext.more (Ext.more (Ext.refl _) _) _) _) _⟩
  · rw [bitsTo_zero]; exact ⟨hw.hdr.more _, hw.bits.more _, hw.len⟩
  · have := Blk.made (((w.alloc (.cells #[.pointer (some ⟨p, 0, none⟩)] 67)).alloc (.cells (boolC (List.replicate (W * H) false)) 4)).alloc (.cells #[.int .i64 W, .int .i64 H, .slice (some ⟨w.heap.size + 1, 0, none⟩) (W * H) (W * H)] 70)) 67 #[.pointer (some ⟨w.heap.size + 1 + 1, 0, none⟩)]
    simpa using this

theorem from_inv1 (w : World) (p g W H : Nat) (L : List Bool) (h : Img w p g W H L) :
    FromInv w p g W H L (w.heap.size + 1 + 1 + 1) (w.heap.size + 1 + 1) w.heap.size (w.heap.size + 1) 0 ((((w.alloc (.cells #[.pointer (some ⟨p, 0, none⟩)] 67)).alloc (.cells #[.pointer (some ⟨w.heap.size + 1 + 1 + 1, 0, none⟩)] 67)).alloc
              (.cells (boolC (List.replicate (W * H) false)) 4)).alloc (.cells #[.int .i64 W, .int .i64 H, .slice (some ⟨w.heap.size + 1 + 1, 0, none⟩) (W * H) (W * H)] 70)) := by
  have hw := blank_img ((w.alloc (.cells #[.pointer (some ⟨p, 0, none⟩)] 67)).alloc (.cells #[.pointer (some ⟨w.heap.size + 1 + 1 + 1, 0, none⟩)] 67)) W H
  simp only [World.size_alloc] at hw
  refine ⟨h.ext (Ext.more (Ext.more (Ext.more (Ext.more (Ext.refl _) _) _) _) _), ?_, (((Blk.made _ _ _).more _).more _).more _, ?_, h.bits.lt, Ext.more (Ext.more (Ext.more (Ext.more (Ext.refl _) _) _) _) _⟩
  · rw [bitsTo_zero]; exact hw
  · have := ((Blk.made (w.alloc (.cells #[.pointer (some ⟨p, 0, none⟩)] 67)) 67 #[.pointer (some ⟨w.heap.size + 1 + 1 + 1, 0, none⟩)]).more (.cells (boolC (List.replicate (W * H) false)) 4)).more (.cells #[.int .i64 W, .int .i64 H, .slice (some ⟨w.heap.size + 1 + 1, 0, none⟩) (W * H) (W * H)] 70)
    simpa using this
theorem FromInv.drew {w wr : World} {p g W H p' g' tm to' k : Nat} {L : List Bool} (h : FromInv w p g W H L p' g' tm to' k wr) : FromInv w p g W H L p' g' tm to' k wr.drew :=
  ⟨h.img.drewN 1, h.out.drewN 1, h.tm, h.tout, h.low, Ext.drawN h.ext 1⟩
theorem from_each {w V : World} {p g W H p' g' tm to' : Nat} {L : List Bool} (h : FromInv w p g W H L p' g' tm to' 0 V) (hg' : w.heap.size ≤ g') (hW : W ≤ 1000) (hH : H ≤ 1000) :
    Calls Tryd.prog 87 #[.pointer (some ⟨p', 0, none⟩), .func (.func 88) #[] #[.pointer (some ⟨to', 0, none⟩), .pointer (some ⟨tm, 0, none⟩)]] V fun e w' => e = .returned (.tuple #[]) ∧ FromInv w p g W H L p' g' tm to' (W * H) w' :=
  each_any p' W H (.slice (some ⟨g', 0, none⟩) (W * H) (W * H)) 88 _ (FromInv w p g W H L p' g' tm to') V hW hH (fun _ _ h => h.out.hdr) (fun x y hx hy wr h => from1_any w p g W H L p' g' tm to' x y wr h hg' hW hH hx hy) h enters_from1

set_option maxRecDepth 100000 in
set_option maxHeartbeats 1000000 in
theorem from_any (p g W H : Nat) (L : List Bool) (w : World) (h : Img w p g W H L) (hW : W ≤ 1000) (hH : H ≤ 1000) :
    Calls Tryd.prog 51 #[.pointer (some ⟨p, 0, none⟩)] w fun e w' => (∃ p' g', e = .returned (.pointer (some ⟨p', 0, none⟩)) ∧ Img w' p' g' W H (frL L W H)) ∧ Below w.heap.size w w' := by
  have c0 := h.hdr.cell 0
  have c1 := h.hdr.cell 1
  simp at c0 c1
  have hp := h.hdr.lt
  have hmf : ∀ (fn : Fn) (first cap : Array Value) (w : World), (Instr.makeFunc fn first cap).run Tryd.prog w = .ok (.func fn first cap) w := fun _ _ _ _ => rfl
  go_enter Tryd.func51, Tryd.ntmps51
  go_wp2_with fail
  go_region_held3 (fun w' => w'.cell? ⟨w.heap.size, 0, none⟩ = some (.pointer (some ⟨p, 0, none⟩)) ∧ w'.cell? ⟨p, 0, none⟩ = some (.int .i64 W) ∧ w'.cell? ⟨p, 1, none⟩ = some (.int .i64 H))
    (first | ((go_split_ands; refine ⟨?_, ?_, ?_⟩ <;> (repeat (first | exact c0 | exact c1 | exact cell_new _ _ _ _ | with_reducible refine cell_drewN ?_ | with_reducible refine cell_drew ?_ | with_reducible refine cell_more (by first | omega | (simp; omega) | simp) ?_)); done)) | go_keep)
    (first | (go_at_call 50; refine (blank_any W H _ hW hH).mono ?_; rintro e w' ⟨rfl, rfl⟩))
  · have I0 := (from_inv0 w p g W H L h).drew
    generalize ((((w.alloc (.cells #[.pointer (some ⟨p, 0, none⟩)] 67)).alloc (.cells (boolC (List.replicate (W * H) false)) 4)).alloc (.cells #[.int .i64 W, .int .i64 H, .slice (some ⟨w.heap.size + 1, 0, none⟩) (W * H) (W * H)] 70)).alloc (.cells #[.pointer (some ⟨w.heap.size + 1 + 1, 0, none⟩)] 67)).drew = V at *
    have E := Lib.hid (from_each I0 (by omega) hW hH)
    have cO := I0.tout.cell 0
    simp at cO
    go_wp2_with fail
    refine E.out.mono ?_
    rintro e w' ⟨rfl, hI⟩
    have cE := hI.tout.cell 0
    simp at cE
    have HI := Lib.hid hI
    clear hI E I0
    go_wp2_with fail
    go_ret
    have := HI.out.out
    rw [bitsTo_all] at this
    exact ⟨⟨_, _, rfl, this⟩, HI.out.ext⟩
  · have I0 := (from_inv1 w p g W H L h).drew
    generalize ((((w.alloc (.cells #[.pointer (some ⟨p, 0, none⟩)] 67)).alloc (.cells #[.pointer (some ⟨w.heap.size + 1 + 1 + 1, 0, none⟩)] 67)).alloc (.cells (boolC (List.replicate (W * H) false)) 4)).alloc (.cells #[.int .i64 W, .int .i64 H, .slice (some ⟨w.heap.size + 1 + 1, 0, none⟩) (W * H) (W * H)] 70)).drew = V at *
    have E := Lib.hid (from_each I0 (by omega) hW hH)
    have cO := I0.tout.cell 0
    simp at cO
    go_wp2_with fail
    refine E.out.mono ?_
    rintro e w' ⟨rfl, hI⟩
    have cE := hI.tout.cell 0
    simp at cE
    have HI := Lib.hid hI
    clear hI E I0
    go_wp2_with fail
    go_ret
    have := HI.out.out
    rw [bitsTo_all] at this
    exact ⟨⟨_, _, rfl, this⟩, HI.out.ext⟩
end Go.Proofs.YtogefmkplkddoaaDoor

namespace Go.Proofs.YtogefmkplkddoaaDoor
open Go.RowKit

def resF (L : List Bool) (W H i : Nat) : Bool := resB L W H ((i % W : Nat) : Int) ((i / W : Nat) : Int)
theorem resL_eq (L : List Bool) (W H : Nat) : resL L W H = bTo (resF L W H) (W * H) := rfl
theorem frL_eq (L : List Bool) (W H : Nat) : frL L W H = bTo (frB L W) (W * H) := rfl
theorem resF_at {L : List Bool} {W H x y : Nat} (hx : x < W) : resF L W H (y * W + x) = ((bit L W H x y != bit L W H ((x : Int) - 1) y) != (bit L W H x ((y : Int) - 1) != bit L W H ((x : Int) - 1) ((y : Int) - 1))) := by
  unfold resF; rw [divW hx, modW hx]; rfl

set_option maxRecDepth 100000 in
set_option maxHeartbeats 1000000 in
theorem residueS_any (p : Nat) (A0 : Option Addr) (c0 : Nat) (rows : List ByteArray) (w : World) (h : PicAt w p A0 c0 rows) (hok : picOk rows = true) :
    Calls Tryd.prog 85 #[.pointer (some ⟨p, 0, none⟩)] w fun e w' => ∃ A c, e = .returned (.agg #[.slice A rows.length c]) ∧
      w'.ownsRow w.heap.size 9 1 (.slice A rows.length c) rows.length (strs (rowsTo (resL (picBits rows) (picW rows) rows.length) (picW rows) rows.length)) ∧ Below w.heap.size w w' := by
  obtain ⟨s1, s2, s3, s4⟩ := picOk_sizes hok
  have BH := Lib.hid (fun x y V (hV : PicAt V p A0 c0 rows) => black_any p A0 c0 rows x y V hV hok)
  have WH := Lib.hid (fun V (hV : PicAt V p A0 c0 rows) => width_any p A0 c0 rows V hV s1)
  have HH := Lib.hid (fun V (hV : PicAt V p A0 c0 rows) => height_any p A0 c0 rows V hV)
  have FH := Lib.hid (fun x y (hx : x < picW rows) => resF_at (L := picBits rows) (W := picW rows) (H := rows.length) (x := x) (y := y) hx)
  have MH := Lib.hid (fun (A : Option Addr) (c : Nat) V (hV : Rd V A (bools (resL (picBits rows) (picW rows) rows.length))) => make_any A c (picW rows) rows.length (resL (picBits rows) (picW rows) rows.length) V hV s3 (by omega) (by omega) (by rw [resL_eq, bTo_length]))
  have PH := Lib.hid (fun V (hb : Below w.heap.size w V) => h.ext hb)
  rw [resL_eq] at MH ⊢
  clear h hok
  generalize rows.length = H at *
  generalize picW rows = W at *
  generalize picBits rows = L at *
  have hWH : W * H ≤ 1000000 := Nat.le_trans (Nat.mul_le_mul (show W ≤ 1000 by omega) (show H ≤ 1000 by omega)) (by decide)
  have hrow0 := World.ownsRow_lit (e := 4) (size := 1) (w.alloc (.cells #[.slice none 0 0] 36)) #[] 0 (Nat.le_refl _) (by decide) rfl
  simp only [World.size_alloc] at hrow0
  have I0 : Blk ((w.alloc (.cells #[.slice none 0 0] 36)).alloc (.cells #[] 4)) w.heap.size 36 #[.slice none 0 0] := ((Blk.made _ _ _).more _)
  have I2 : Below w.heap.size w ((w.alloc (.cells #[.slice none 0 0] 36)).alloc (.cells #[] 4)) := Ext.more (Ext.more (Ext.refl _) _) _
  go_enter Tryd.func85, Tryd.ntmps85
  go_wp2_with fail
  obtain ⟨R, hR⟩ : ∃ R, R = w.heap.size := ⟨_, rfl⟩
  rw [← hR] at I0 I2 hrow0 ⊢
  have HR := Lib.hid hR
  rw [← hR] at PH
  clear hR
  go_loopw [3, 4] (fun v i wr => ∃ (y c : Nat) (A : Option Addr), y ≤ H ∧ i = .int .i64 y ∧ v = .slice A (y * W) c ∧ Blk wr R 36 #[.slice none 0 0] ∧ wr.ownsRow (R + 1) 4 1 (.slice A (y * W) c) (y * W) (bools (bTo (resF L W H) (y * W))) ∧ Below R w wr) (fun _ i _ => H - (intOf i).toNat)
  case atStart => exact ⟨0, 0, _, Nat.zero_le _, rfl, by rw [Nat.zero_mul], I0, by rw [Nat.zero_mul]; exact hrow0, I2⟩
  case round =>
    obtain ⟨y, c, A, hy, rfl, rfl, hB0, hown, hb⟩ := hrel
    clear I0 I2 hrow0
    have H1 := Lib.hid (HH.out _ (PH.out _ hb))
    by_cases hlt : y < H
    · have hyW : y * W + W ≤ W * H := by rw [Nat.mul_comm W H, ← Nat.succ_mul]; exact Nat.mul_le_mul_right _ hlt
      obtain ⟨wo, rfl⟩ : ∃ wo : World, wo = wr := ⟨_, rfl⟩
      have i2 : IntKind.i64.wrap ((y : Int) - 1) = (y : Int) - 1 := IntWalk.i64_in _ (by omega)
      go_wp2_with (go_at_call 82; refine H1.out.mono ?_; rintro e w' ⟨rfl, rfl⟩)
      go_loopw [3, 5] (fun v i wr => ∃ (x c : Nat) (A : Option Addr), x ≤ W ∧ i = .int .i64 x ∧ v = .slice A (y * W + x) c ∧ Blk wr R 36 #[.slice none 0 0] ∧ wr.ownsRow (R + 1) 4 1 (.slice A (y * W + x) c) (y * W + x) (bools (bTo (resF L W H) (y * W + x))) ∧ Below R w wr) (fun _ i _ => W - (intOf i).toNat)
      case atStart => exact ⟨0, _, _, Nat.zero_le _, rfl, rfl, hB0, hown, hb⟩
      case round =>
        obtain ⟨x, c2, A2, hx, rfl, rfl, hB2, hown2, hb2⟩ := hrel
        have W1 := Lib.hid (WH.out _ (PH.out _ hb2))
        by_cases hxl : x < W
        · have F := Lib.hid (FH.out x y hxl)
          have i1 : IntKind.i64.wrap ((x : Int) - 1) = (x : Int) - 1 := IntWalk.i64_in _ (by omega)
          have P1 := Lib.hid (fun x y => BH.out x y wr (PH.out _ hb2))
          have hlt2 := hB2.lt
          go_wp2_with (first
            | (go_at_call 81; refine W1.out.mono ?_; rintro e w' ⟨rfl, rfl⟩)
            | (go_at_call 83; refine (P1.out _ _).mono ?_; rintro e w' ⟨rfl, rfl⟩)
            | (at_builtin; refine wpList_app boolT (by rfl) _ _ (by rfl) (R + 1) (.slice A2 (y * W + x) c2) (y * W + x) (bools (bTo (resF L W H) (y * W + x))) (by rfl) (hown2.alloc _) wr.heap.size #[.bool (resF L W H (y * W + x))] (by rfl) (by rw [F.out]; exact heap_alloc_new _ _) rfl (by simp [Value.oneCell']) (by omega) (by simp; omega) ?_; intro g3 cap3 w3 hown3 hgrow3 hat3 hlt3))
          go_roundw
          case rel =>
            refine ⟨x + 1, cap3, some ⟨g3, 0, none⟩, by omega, by go_num, rfl, ?_, ?_, ?_⟩
            · exact (hB2.more _).by_grown hgrow3 (fun e => by have := (hown2.lt _ e.symm).1; omega)
            · rw [show y * W + (x + 1) = y * W + x + 1 from rfl, bTo_succ]; simpa [bools] using hown3
            · exact (hb2.alloc (by omega) _).grown hgrow3 (by simp; omega) (fun z hz => by have := (hown2.lt z hz).1; omega)
          case measure => simp [intOf]; omega
        · obtain rfl : x = W := by omega
          go_wp2_with (go_at_call 81; refine W1.out.mono ?_; rintro e w' ⟨rfl, rfl⟩)
          go_roundw
          case rel => exact ⟨y + 1, _, _, by omega, by go_num, by rw [Nat.add_mul, Nat.one_mul], hB2, by rw [Nat.add_mul, Nat.one_mul]; exact hown2, hb2⟩
          case measure => simp [intOf]; omega
    · obtain rfl : y = H := by omega
      have W1 := Lib.hid (WH.out _ (PH.out _ hb))
      have M1 := Lib.hid (MH.out A c wr (by rw [Nat.mul_comm]; exact Rd.of_own hown))
      rw [Nat.mul_comm W y] at M1
      have hlt2 := hB0.lt
      go_wp2_with (first
        | (go_at_call 82; refine H1.out.mono ?_; rintro e w' ⟨rfl, rfl⟩)
        | (go_at_call 81; refine W1.out.mono ?_; rintro e w' ⟨rfl, rfl⟩)
        | (go_at_call 46; refine M1.out.mono ?_; rintro e w3 ⟨A3, c3, rfl, hown3, hb3⟩; have hB3 := hB0.under hb3 hB0.lt; have c3' := hB3.cell 0; have f3 := hB3.free 0; simp at c3'))
      have cs := (hB3.store 0 (.slice A3 y c3)).cell 0
      simp at cs
      refine bodyPost_ret (v := .agg #[.slice A3 y c3]) (by simp [results, Tryd.results85, go_sem, cs]) rfl ⟨A3, c3, rfl, ?_, ?_⟩
      · rw [← HR.out]; rw [Nat.mul_comm]; exact own_base (ownsRow_setCell_below hown3 (a := ⟨R, 0, none⟩) (by show R < wr.heap.size; omega) _) (by omega)
      · rw [← HR.out]; exact (hb.trans (hb3.mono (by omega))).setCell (p := ⟨R, 0, none⟩) (Nat.le_refl _) _
end Go.Proofs.YtogefmkplkddoaaDoor

namespace Go.Proofs.YtogefmkplkddoaaDoor
open Go.RowKit

theorem frB_zero {L : List Bool} {W x : Nat} (hx : x < W) : frB L W (0 * W + x) = rowX L W 0 (x + 1) := by rw [frB_at hx]; rfl
theorem frB_next {L : List Bool} {W x y : Nat} (hx : x < W) : frB L W ((y + 1) * W + x) = (rowX L W (y + 1) (x + 1) != frB L W (y * W + x)) := by rw [frB_at hx, frB_at hx]; rfl

set_option maxRecDepth 100000 in
set_option maxHeartbeats 1000000 in
theorem fromS_any (p : Nat) (A0 : Option Addr) (c0 : Nat) (rows : List ByteArray) (w : World) (h : PicAt w p A0 c0 rows) (hok : picOk rows = true) :
    Calls Tryd.prog 47 #[.pointer (some ⟨p, 0, none⟩)] w fun e w' => ∃ A c, e = .returned (.agg #[.slice A rows.length c]) ∧
      w'.ownsRow w.heap.size 9 1 (.slice A rows.length c) rows.length (strs (rowsTo (frL (picBits rows) (picW rows) rows.length) (picW rows) rows.length)) ∧ Below w.heap.size w w' := by
  obtain ⟨s1, s2, s3, s4⟩ := picOk_sizes hok
  have BH := Lib.hid (fun x y V (hV : PicAt V p A0 c0 rows) => black_any p A0 c0 rows x y V hV hok)
  have WH := Lib.hid (fun V (hV : PicAt V p A0 c0 rows) => width_any p A0 c0 rows V hV s1)
  have HH := Lib.hid (fun V (hV : PicAt V p A0 c0 rows) => height_any p A0 c0 rows V hV)
  have MH := Lib.hid (fun (A : Option Addr) (c : Nat) V (hV : Rd V A (bools (frL (picBits rows) (picW rows) rows.length))) => make_any A c (picW rows) rows.length (frL (picBits rows) (picW rows) rows.length) V hV s3 (by omega) (by omega) (by rw [frL_eq, bTo_length]))
  have PH := Lib.hid (fun V (hb : Below w.heap.size w V) => h.ext hb)
  rw [frL_eq] at MH ⊢
  clear h hok
  generalize rows.length = H at *
  generalize picW rows = W at *
  generalize picBits rows = L at *
  have hWH : W * H ≤ 1000000 := Nat.le_trans (Nat.mul_le_mul (show W ≤ 1000 by omega) (show H ≤ 1000 by omega)) (by decide)
  have hrow0 := World.ownsRow_lit (e := 4) (size := 1) (w.alloc (.cells #[.slice none 0 0] 36)) #[] 0 (Nat.le_refl _) (by decide) rfl
  simp only [World.size_alloc] at hrow0
  have I0 : Blk ((w.alloc (.cells #[.slice none 0 0] 36)).alloc (.cells #[] 4)) w.heap.size 36 #[.slice none 0 0] := ((Blk.made _ _ _).more _)
  have I2 : Below w.heap.size w ((w.alloc (.cells #[.slice none 0 0] 36)).alloc (.cells #[] 4)) := Ext.more (Ext.more (Ext.refl _) _) _
  have W1 := Lib.hid (WH.out (w.alloc (.cells #[.slice none 0 0] 36)) (PH.out _ (Ext.more (Ext.refl _) _)))
  go_enter Tryd.func47, Tryd.ntmps47
  go_wp2_with (go_at_call 81; refine W1.out.mono ?_; rintro e w' ⟨rfl, rfl⟩)
  obtain ⟨R, hR⟩ : ∃ R, R = w.heap.size := ⟨_, rfl⟩
  rw [← hR] at I0 I2 hrow0 ⊢
  have HR := Lib.hid hR
  rw [← hR] at PH
  clear hR
  go_loopw [4, 5] (fun v i wr => ∃ (y c : Nat) (A : Option Addr), y ≤ H ∧ i = .int .i64 y ∧ v = .slice A (y * W) c ∧ Blk wr R 36 #[.slice none 0 0] ∧ wr.ownsRow (R + 1) 4 1 (.slice A (y * W) c) (y * W) (bools (bTo (frB L W) (y * W))) ∧ Below R w wr) (fun _ i _ => H - (intOf i).toNat)
  case atStart => exact ⟨0, 0, _, Nat.zero_le _, rfl, by rw [Nat.zero_mul], I0, by rw [Nat.zero_mul]; exact hrow0, I2⟩
  case round =>
    obtain ⟨y, c, A, hy, rfl, rfl, hB0, hown, hb⟩ := hrel
    clear I0 I2 hrow0
    have H1 := Lib.hid (HH.out _ (PH.out _ hb))
    by_cases hlt : y < H
    · have hyW : y * W + W ≤ W * H := by rw [Nat.mul_comm W H, ← Nat.succ_mul]; exact Nat.mul_le_mul_right _ hlt
      obtain ⟨wo, rfl⟩ : ∃ wo : World, wo = wr := ⟨_, rfl⟩
      go_wp2_with (go_at_call 82; refine H1.out.mono ?_; rintro e w' ⟨rfl, rfl⟩)
      go_loopw [4, 6, 7] (fun v o i wr => ∃ (x c : Nat) (A : Option Addr), x ≤ W ∧ i = .int .i64 x ∧ o = .bool (rowX L W y x) ∧ v = .slice A (y * W + x) c ∧ Blk wr R 36 #[.slice none 0 0] ∧ wr.ownsRow (R + 1) 4 1 (.slice A (y * W + x) c) (y * W + x) (bools (bTo (frB L W) (y * W + x))) ∧ Below R w wr) (fun _ _ i _ => W - (intOf i).toNat)
      case atStart => exact ⟨0, _, _, Nat.zero_le _, rfl, rfl, rfl, hB0, hown, hb⟩
      case round =>
        obtain ⟨x, c2, A2, hx, rfl, rfl, rfl, hB2, hown2, hb2⟩ := hrel
        by_cases hxl : x < W
        · have P1 := Lib.hid (BH.out x y wr (PH.out _ hb2))
          rw [bit_in hxl hlt] at P1
          have hlt2 := hB2.lt
          obtain ⟨k, hk⟩ : ∃ k, y * W + x = k := ⟨_, rfl⟩
          obtain ⟨o, ho⟩ : ∃ o, rowX L W y x = o := ⟨_, rfl⟩
          obtain ⟨o', ho'⟩ : ∃ o', rowX L W y (x + 1) = o' := ⟨_, rfl⟩
          have F0 : (o != L.getD k false) = o' := by rw [← ho, ← hk, ← ho']; rfl
          have hfb : y = 0 → frB L W k = o' := fun e => by subst e; rw [← hk, ← ho']; exact frB_zero hxl
          have hfn : ∀ yp, y = yp + 1 → frB L W k = (o' != frB L W (yp * W + x)) := fun yp e => by subst e; rw [← hk, ← ho']; exact frB_next hxl
          rw [hk] at hown2 P1 ⊢
          rw [ho]
          have HO' := Lib.hid ho'
          have hk2 : k ≤ 1000000 := by omega
          have KH := Lib.hid hk
          generalize L.getD k false = q at *
          have FIN := Lib.hid (fun (g3 cap3 : Nat) (w3 : World) (hown3 : w3.ownsRow (R + 1) 4 1 (.slice (some ⟨g3, 0, none⟩) (k + 1) cap3) (k + 1) (bools (bTo (frB L W) k) ++ #[Value.bool (frB L W k)].toList)) => (show w3.ownsRow (R + 1) 4 1 (.slice (some ⟨g3, 0, none⟩) (k + 1) cap3) (k + 1) (bools (bTo (frB L W) (k + 1))) by rw [bTo_succ]; simpa [bools] using hown3))
          obtain ⟨fb, hfb'⟩ : ∃ fb, frB L W k = fb := ⟨_, rfl⟩
          rw [hfb'] at FIN hfb hfn
          by_cases y0 : y = 0
          · have hfb := hfb y0
            have ny : ¬ (0 : Int) < (y : Int) := by omega
            clear hfn ho ho' hfb' hk
            subst hfb
            have HH0 := Lib.hid y0
            clear y0
            cases o <;> cases q <;> subst F0
            all_goals
              go_wp2_with (first
                | (go_at_call 83; refine P1.out.mono ?_; rintro e w' ⟨rfl, rfl⟩)
                | (at_builtin; refine wpList_app boolT (by rfl) _ _ (by rfl) (R + 1) (.slice A2 k c2) k (bools (bTo (frB L W) k)) (by rfl) (hown2.alloc _) wr.heap.size #[.bool _] (by rfl) (heap_alloc_new _ _) rfl (by simp [Value.oneCell']) (by omega) (by simp; omega) ?_; intro g3 cap3 w3 hown3 hgrow3 hat3 hlt3))
              go_roundw
              case rel =>
                refine ⟨x + 1, cap3, some ⟨g3, 0, none⟩, by omega, by go_num, by rw [HO'.out]; rfl, by rw [← Nat.add_assoc, KH.out], ?_, ?_, ?_⟩
                · exact (hB2.more _).by_grown hgrow3 (fun e => by have := (hown2.lt _ e.symm).1; omega)
                · rw [show y * W + (x + 1) = y * W + x + 1 from rfl, KH.out]; exact FIN.out _ _ _ hown3
                · exact (hb2.alloc (by omega) _).grown hgrow3 (by simp; omega) (fun z hz => by have := (hown2.lt z hz).1; omega)
              case measure => simp [intOf]; omega
          · obtain ⟨yp, hyp⟩ : ∃ yp, y = yp + 1 := ⟨y - 1, by omega⟩
            have hfn := hfn yp hyp
            have hyW2 : yp * W + W = y * W := by rw [hyp, Nat.add_mul]; omega
            have cl : ∃ g2, A2 = some ⟨g2, 0, none⟩ ∧ wr.cell? ⟨g2, yp * W + x, none⟩ = some (.bool (frB L W (yp * W + x))) := by
              obtain ⟨g2, e, hg2, hc2⟩ := Rd.of_own hown2 (by simp [bools, bTo_length]; omega)
              refine ⟨g2, e, ?_⟩
              rw [hc2 _ (by simp [bools, bTo_length]; omega)]
              simp [bools, bTo]
            obtain ⟨g2, rfl, c2'⟩ := cl
            generalize frB L W (yp * W + x) = z at *
            have i1 : IntKind.i64.wrap ((y : Int) - 1) = (yp : Int) := by rw [IntWalk.i64_in _ (by omega)]; omega
            have i4 : IntKind.i64.wrap ((yp : Int) * W) = ((yp * W : Nat) : Int) := by rw [IntWalk.i64_in _ (by rw [← Int.natCast_mul]; omega)]; simp
            have i5 : IntKind.i64.wrap (((yp * W : Nat) : Int) + x) = ((yp * W + x : Nat) : Int) := by rw [IntWalk.i64_in _ (by omega)]; simp
            have i6 : (0 : Int) ≤ ((yp * W + x : Nat) : Int) := by omega
            have i7 : ((yp * W + x : Nat) : Int) < (k : Int) := by omega
            have i8 : (0 : Int) < (y : Int) := by omega
            have XK : Hid (y * W + x = k ∧ y ≤ H ∧ x < W ∧ y = yp + 1) := ⟨hk, hy, hxl, hyp⟩
            clear hfb ho ho' hfb' hk hyp y0
            cases o <;> cases q <;> cases z <;> subst F0 <;> subst hfn
            all_goals
              go_wp2_with (first
                | (go_at_call 83; refine P1.out.mono ?_; rintro e w' ⟨rfl, rfl⟩)
                | (at_builtin; refine wpList_app boolT (by rfl) _ _ (by rfl) (R + 1) (.slice (some ⟨g2, 0, none⟩) k c2) k (bools (bTo (frB L W) k)) (by rfl) (hown2.alloc _) wr.heap.size #[.bool _] (by rfl) (heap_alloc_new _ _) rfl (by simp [Value.oneCell']) (by omega) (by simp; omega) ?_; intro g3 cap3 w3 hown3 hgrow3 hat3 hlt3))
              go_roundw
              case rel =>
                refine ⟨x + 1, cap3, some ⟨g3, 0, none⟩, by omega, by go_num, by rw [HO'.out]; rfl, by rw [← Nat.add_assoc, KH.out], ?_, ?_, ?_⟩
                · exact (hB2.more _).by_grown hgrow3 (fun e => by have := (hown2.lt _ e.symm).1; omega)
                · rw [show y * W + (x + 1) = y * W + x + 1 from rfl, KH.out]; exact FIN.out _ _ _ hown3
                · exact (hb2.alloc (by omega) _).grown hgrow3 (by simp; omega) (fun z hz => by have := (hown2.lt z hz).1; omega)
              case measure => simp [intOf]; omega
        · obtain rfl : x = W := by omega
          go_wp2_with fail
          go_roundw
          case rel => exact ⟨y + 1, _, _, by omega, by go_num, by rw [Nat.add_mul, Nat.one_mul], hB2, by rw [Nat.add_mul, Nat.one_mul]; exact hown2, hb2⟩
          case measure => simp [intOf]; omega
    · obtain rfl : y = H := by omega
      have M1 := Lib.hid (MH.out A c wr (by rw [Nat.mul_comm]; exact Rd.of_own hown))
      rw [Nat.mul_comm W y] at M1
      have hlt2 := hB0.lt
      go_wp2_with (first
        | (go_at_call 82; refine H1.out.mono ?_; rintro e w' ⟨rfl, rfl⟩)
        | (go_at_call 46; refine M1.out.mono ?_; rintro e w3 ⟨A3, c3, rfl, hown3, hb3⟩; have hB3 := hB0.under hb3 hB0.lt; have c3' := hB3.cell 0; have f3 := hB3.free 0; simp at c3'))
      have cs := (hB3.store 0 (.slice A3 y c3)).cell 0
      simp at cs
      refine bodyPost_ret (v := .agg #[.slice A3 y c3]) (by simp [results, Tryd.results47, go_sem, cs]) rfl ⟨A3, c3, rfl, ?_, ?_⟩
      · rw [← HR.out]; rw [Nat.mul_comm]; exact own_base (ownsRow_setCell_below hown3 (a := ⟨R, 0, none⟩) (by show R < wr.heap.size; omega) _) (by omega)
      · rw [← HR.out]; exact (hb.trans (hb3.mono (by omega))).setCell (p := ⟨R, 0, none⟩) (Nat.le_refl _) _
end Go.Proofs.YtogefmkplkddoaaDoor

namespace Go.Proofs.YtogefmkplkddoaaDoor
open Go.RowKit

theorem bitsTo_full (b : Nat → Bool) (n : Nat) : bTo b n = bitsTo b n n := (bitsTo_all b n).symm
/-- Where a list is known up to k, its bits before k are those of the whole. -/
theorem bit_before {b : Nat → Bool} {W H x y : Nat} (hx : x < W) (hy : y < H) (x' y' : Int) (h : (x' = (x : Int) - 1 ∧ y' = y) ∨ (x' = x ∧ y' = (y : Int) - 1) ∨ (x' = (x : Int) - 1 ∧ y' = (y : Int) - 1)) :
    bit (bitsTo b (y * W + x) (W * H)) W H x' y' = bit (bTo b (W * H)) W H x' y' := by
  by_cases h0 : x' < 0
  · simp [bit, show ¬ (0 ≤ x') by omega]
  · by_cases h1 : y' < 0
    · simp [bit, show ¬ (0 ≤ y') by omega]
    · obtain ⟨a, rfl⟩ : ∃ a : Nat, x' = a := ⟨x'.toNat, by omega⟩
      obtain ⟨d, rfl⟩ : ∃ d : Nat, y' = d := ⟨y'.toNat, by omega⟩
      have ha : a < W := by omega
      have hd : d < H := by omega
      have hk : d * W + a < y * W + x := by
        rcases h with ⟨h2, h3⟩ | ⟨h2, h3⟩ | ⟨h2, h3⟩
        · have : d = y := by omega
          subst this; omega
        · have : y = d + 1 := by omega
          subst this; rw [Nat.add_mul]; omega
        · have : y = d + 1 := by omega
          subst this; rw [Nat.add_mul]; omega
      rw [bit_to ha hd hk, bit_bTo ha hd]
/-- The equation of what comes from a residue. -/
theorem fr_eq (L : List Bool) (W H x y : Nat) (hx : x < W) (hy : y < H) :
    ((bit L W H x y != bit (frL L W H) W H ((x : Int) - 1) y) != (bit (frL L W H) W H x ((y : Int) - 1) != bit (frL L W H) W H ((x : Int) - 1) ((y : Int) - 1))) = frB L W (y * W + x) := by
  have h := fr_step L W H x y hx hy
  rw [bit_before hx hy _ _ (.inl ⟨rfl, rfl⟩), bit_before hx hy _ _ (.inr (.inl ⟨rfl, rfl⟩)), bit_before hx hy _ _ (.inr (.inr ⟨rfl, rfl⟩))] at h
  exact h
theorem res_fr {L : List Bool} {W H : Nat} (hL : L.length = W * H) : resL (frL L W H) W H = L := by
  rw [resL_eq]
  refine list_bits hL (fun x y hx hy => ?_)
  rw [resF_at hx]
  have h := fr_eq L W H x y hx hy
  have e : bit (frL L W H) W H x y = frB L W (y * W + x) := by rw [frL_eq, bit_bTo hx hy]
  rw [e, ← h]
  generalize bit L W H x y = a
  generalize bit (frL L W H) W H ((x : Int) - 1) y = b
  generalize bit (frL L W H) W H x ((y : Int) - 1) = c
  generalize bit (frL L W H) W H ((x : Int) - 1) ((y : Int) - 1) = d
  revert a b c d; decide

theorem fr_res_at {L : List Bool} {W H : Nat} : ∀ (y : Nat), y < H → ∀ x, x < W → frB (resL L W H) W (y * W + x) = bit L W H x y := by
  intro y
  induction y with
  | zero =>
    intro hy x
    induction x with
    | zero =>
      intro hx
      rw [← fr_eq _ W H 0 0 hx hy, resL_eq, bit_bTo hx hy, resF_at hx]
      simp [bit]
    | succ x ih =>
      intro hx
      have h1 := ih (by omega)
      rw [← fr_eq _ W H (x + 1) 0 hx hy]
      have e1 : ((x + 1 : Nat) : Int) - 1 = (x : Int) := by omega
      have e2 : ((0 : Nat) : Int) - 1 = -1 := rfl
      rw [e1, e2, bit_over, bit_over, frL_eq, bit_bTo (x := x) (y := 0) (by omega) hy, h1, resL_eq, bit_bTo hx hy, resF_at hx, e1, e2, bit_over, bit_over]
      generalize bit L W H x (0 : Nat) = a
      generalize bit L W H (x + 1 : Nat) (0 : Nat) = b
      revert a b; decide
  | succ y ihy =>
    intro hy x
    have hr := ihy (by omega)
    have e2 : ((y + 1 : Nat) : Int) - 1 = (y : Int) := by omega
    induction x with
    | zero =>
      intro hx
      rw [← fr_eq _ W H 0 (y + 1) hx hy]
      have e1 : ((0 : Nat) : Int) - 1 = -1 := rfl
      rw [e1, e2, bit_left, bit_left, frL_eq, bit_bTo (x := 0) (y := y) hx (by omega), hr 0 hx, resL_eq, bit_bTo hx hy, resF_at hx, e1, e2, bit_left, bit_left]
      generalize bit L W H (0 : Nat) y = a
      generalize bit L W H (0 : Nat) (y + 1 : Nat) = b
      revert a b; decide
    | succ x ih =>
      intro hx
      have h1 := ih (by omega)
      rw [← fr_eq _ W H (x + 1) (y + 1) hx hy]
      have e1 : ((x + 1 : Nat) : Int) - 1 = (x : Int) := by omega
      rw [e1, e2, frL_eq, bit_bTo (x := x) (y := y + 1) (by omega) hy, h1, bit_bTo (x := x + 1) (y := y) hx (by omega), hr (x + 1) hx, bit_bTo (x := x) (y := y) (by omega) (by omega), hr x (by omega), resL_eq, bit_bTo hx hy, resF_at hx, e1, e2]
      generalize bit L W H x (y + 1 : Nat) = a
      generalize bit L W H (x + 1 : Nat) (y + 1 : Nat) = b
      generalize bit L W H (x + 1 : Nat) y = c
      generalize bit L W H x y = d
      revert a b c d; decide
theorem fr_res {L : List Bool} {W H : Nat} (hL : L.length = W * H) : frL (resL L W H) W H = L := by
  rw [frL_eq]
  exact list_bits hL (fun x y hx hy => fr_res_at y hy x hx)

end Go.Proofs.YtogefmkplkddoaaDoor
