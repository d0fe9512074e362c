/- Residues: the program's. -/
import Derived.Test.YtogefmkplkddoaaDoorWith
namespace Go.Proofs.YtogefmkplkddoaaDoor
open Go.RowKit

def resB (L : List Bool) (W H : Nat) (x y : Int) : Bool := (bit L W H x y != bit L W H (x - 1) y) != (bit L W H x (y - 1) != bit L W H (x - 1) (y - 1))
def resL (L : List Bool) (W H : Nat) : List Bool := (List.range (W * H)).map fun i => resB L W H ((i % W : Nat) : Int) ((i / W : Nat) : Int)
theorem divW {W x y : Nat} (hx : x < W) : (y * W + x) / W = y := by
  rw [Nat.mul_comm, Nat.mul_add_div (by omega), Nat.div_eq_of_lt hx]; omega
theorem modW {W x y : Nat} (hx : x < W) : (y * W + x) % W = x := by
  rw [Nat.mul_comm, Nat.mul_add_mod, Nat.mod_eq_of_lt hx]
theorem enters_res1 : Enters 108 := enters_of Tryd.func108 (by kernel_rfl) (by kernel_rfl)
theorem enters_res : Enters 92 := enters_of Tryd.func92 (by kernel_rfl) (by kernel_rfl)

set_option maxRecDepth 100000 in
set_option maxHeartbeats 1000000 in
theorem res1_any (p g W H t : Nat) (L : List Bool) (x y : Nat) (w : World) (h : Img w p g W H L) (hW : W ≤ 1000) (hH : H ≤ 1000) (hx : x < W) (hy : y < H) (ht : Blk w t 67 #[.pointer (some ⟨p, 0, none⟩)]) :
    Calls Tryd.prog 108 #[.int .i64 x, .int .i64 y, .pointer (some ⟨t, 0, none⟩)] w fun e w' => e = .returned (.bool (resB L W H x y)) ∧ ∃ k, w' = w.drewN k := by
  have c0 := ht.cell 0
  simp at c0
  have i1 : IntKind.i64.wrap ((x : Int) - 1) = (x : Int) - 1 := IntWalk.i64_in _ (by omega)
  have i2 : IntKind.i64.wrap ((y : Int) - 1) = (y : Int) - 1 := IntWalk.i64_in _ (by omega)
  go_enter Tryd.func108, Tryd.ntmps108
  go_wp2_with fail
  go_quiet ((go_at_call 90; exact Calls.quiet_of (get_any p g W H L _ _ _ (h.drewN _) hW hH)))
  clear i1 i2
  go_wp2_with fail
  go_ret
  exact ⟨rfl, _, rfl⟩

set_option maxRecDepth 100000 in
set_option maxHeartbeats 1000000 in
theorem residue_any (p g W H : Nat) (L : List Bool) (w : World) (h : Img w p g W H L) (hW : W ≤ 1000) (hH : H ≤ 1000) :
    Calls Tryd.prog 92 #[.pointer (some ⟨p, 0, none⟩)] w fun e w' => (∃ p' g', e = .returned (.pointer (some ⟨p', 0, none⟩)) ∧ Img w' p' g' W H (resL L W H)) ∧ Below w.heap.size w w' := by
  have c0 := h.hdr.cell 0
  have c1 := h.hdr.cell 1
  simp at c0 c1
  have hp := h.hdr.lt
  have M : Hid (∀ V : World, Below w.heap.size w V → Blk V w.heap.size 67 #[.pointer (some ⟨p, 0, none⟩)] → Calls Tryd.prog 107 #[.int .i64 W, .int .i64 H, .func (.func 108) #[] #[.pointer (some ⟨w.heap.size, 0, none⟩)]] V fun e w' => ∃ p g, e = .returned (.pointer (some ⟨p, 0, none⟩)) ∧
      Img w' p g W H (resL L W H) ∧ V.heap.size ≤ p ∧ V.heap.size ≤ g ∧ Below V.heap.size V w') := by
    intro V hb hB
    refine made_any W H 108 #[.pointer (some ⟨w.heap.size, 0, none⟩)] (fun i => resB L W H ((i % W : Nat) : Int) ((i / W : Nat) : Int)) V hW hH enters_res1 ?_
    intro x y hx hy wr hwr
    refine (res1_any p g W H w.heap.size L x y wr (h.ext (hb.trans (hwr.mono hb.size))) hW hH hx hy (hB.under hwr hB.lt)).mono ?_
    rintro e w' ⟨rfl, k, rfl⟩
    simp only [divW hx, modW hx]
    exact ⟨trivial, Ext.drawN (Ext.refl _) _⟩
  have hmf : ∀ (fn : Fn) (first cap : Array Value) (w : World), (Instr.makeFunc fn first cap).run Tryd.prog w = .ok (.func fn first cap) w := fun _ _ _ _ => rfl
  have B0 := Blk.made w 67 #[.pointer (some ⟨p, 0, none⟩)]
  have B1 : Below w.heap.size w (w.alloc (.cells #[.pointer (some ⟨p, 0, none⟩)] 67)) := Ext.more (Ext.refl _) _
  go_enter Tryd.func92, Tryd.ntmps92
  go_wp2_with fail
  go_region_held3 (fun w' => w'.cell? ⟨w.heap.size, 0, none⟩ = some (.pointer (some ⟨p, 0, none⟩)) ∧ w'.cell? ⟨p, 0, none⟩ = some (.int .i64 W) ∧ w'.cell? ⟨p, 1, none⟩ = some (.int .i64 H))
    (first | ((go_split_ands; refine ⟨?_, ?_, ?_⟩ <;> exact (hb'.cell (p := ⟨_, _, none⟩) (by first | omega | (simp; omega) | simp)).trans (by assumption))) | (simp [go_sem, World.cell?_alloc_past, hp, c0, c1]))
    (first | (go_at_call 107; refine (M.out _ B1.drew B0).mono ?_; rintro e w' ⟨p', g', rfl, hm', hp', hg', hb'⟩))
  go_wp2_with fail
  go_ret
  exact ⟨⟨p', g', rfl, hm'⟩, Ext.then_ B1.drew hb'⟩
end Go.Proofs.YtogefmkplkddoaaDoor
