/- The reference's places of spots; least heights between places and to the edge. -/
import Derived.Test.YtajepoopicoodaaLst
import Derived.Test.YtajepoopicoodaaSpi
namespace Go.Proofs.Ytajepoopicoodaa
open Go.RowKit

set_option maxHeartbeats 400000 in
theorem widthG_any (p : Nat) (A : Option Addr) (c : Nat) (rows : List (List Int)) (w : World) (h : GreyAt w p A c rows) (hn : 0 < rows.length) :
    Calls Try.prog 66 #[.pointer (some ⟨p, 0, none⟩)] w fun e w' => e = .returned (.int .i64 (tabW rows : Int)) ∧ w = w' := by
  have c0 := h.cell
  obtain ⟨g, rfl, hg, hc⟩ := h.rd hn
  obtain ⟨A0, c1, k0, d0⟩ := hc 0 hn
  rw [tabW_head hn] at k0
  generalize tabW rows = W at *
  have i0 : (0 : Int) < (rows.length : Int) := by omega
  clear hc d0 h
  generalize rows.length = n at *
  go_enter Try.func66, Try.ntmps66
  go_wp2_with fail
  go_ret
  exact ⟨rfl, rfl⟩
/-- The place of a spot; 0. -/
def plcO (W H : Nat) (x y : Int) : Int := if inG W H (x, y) then ((plc W (x, y) : Nat) : Int) else 0
set_option maxRecDepth 100000 in
set_option maxHeartbeats 1000000 in
theorem placeS_any (p : Nat) (A : Option Addr) (c : Nat) (rows : List (List Int)) (W H : Nat) (x y : Int) (w : World) (h : GreyAt w p A c rows) (hW0 : tabW rows = W) (hH0 : rows.length = H) (hH1 : 0 < H) (hW : W ≤ 16) (hH : H ≤ 16) :
    Calls Try.prog 52 #[.pointer (some ⟨p, 0, none⟩), .agg #[.int .i64 x, .int .i64 y]] w fun e w' => e = .returned (.tuple #[.int .i64 (plcO W H x y), .bool (inG W H (x, y))]) ∧ Below w.heap.size w w' := by
  have B0 : Below w.heap.size w (w.alloc (.cells #[.int .i64 x, .int .i64 y] 28)) := Ext.more (Ext.refl _) _
  have h1 := h.ext B0
  have WD := Lib.hid (fun V (hV : GreyAt V p A c rows) => widthG_any p A c rows V hV (by omega))
  rw [hW0] at WD
  have HG := Lib.hid h1
  have c0 := h1.cell
  rw [hH0] at c0
  have k3 : (w.alloc (.cells #[.int .i64 x, .int .i64 y] 28)).cell? ⟨w.heap.size, 0, none⟩ = some (.int .i64 x) := cell_new w _ _ 0
  have k4 : (w.alloc (.cells #[.int .i64 x, .int .i64 y] 28)).cell? ⟨w.heap.size, 1, none⟩ = some (.int .i64 y) := cell_new w _ _ 1
  have j1 : IntKind.i64.wrap ((W : Int) - 1) = (W : Int) - 1 := IntWalk.i64_in _ (by omega)
  have j2 : IntKind.i64.wrap ((H : Int) - 1) = (H : Int) - 1 := IntWalk.i64_in _ (by omega)
  have I1 := Lib.hid (fun V => inS_any x 0 ((W : Int) - 1) V)
  have I2 := Lib.hid (fun V => inS_any y 0 ((H : Int) - 1) V)
  clear h h1 hW0 hH0
  cases e1 : inB x 0 ((W : Int) - 1)
  · rw [e1] at I1
    have F : Hid (inG W H (x, y) = false) := by rw [Hid, inG, e1]; rfl
    have F2 : Hid (plcO W H x y = 0) := by rw [Hid, plcO, if_neg]; rw [F.out]; decide
    rw [F.out, F2.out]
    clear e1
    go_enter Try.func52, Try.ntmps52
    go_wp2_with fail
    generalize w.alloc (.cells #[.int .i64 x, .int .i64 y] 28) = w1 at *
    go_quiet ((first
      | (go_at_call 66; exact Calls.quiet_of_same ((WD.out _ (HG.out.drewN _)).mono fun _ _ ⟨h, k⟩ => ⟨h, k.symm⟩))
      | (go_at_call 76; exact Calls.quiet_of_same ((I1.out _).mono fun _ _ ⟨h, k⟩ => ⟨h, k.symm⟩))))
    go_wp2_with fail
    go_ret2
    exact ⟨rfl, Ext.drawN B0 _⟩
  · rw [e1] at I1
    cases e2 : inB y 0 ((H : Int) - 1)
    · rw [e2] at I2
      have F : Hid (inG W H (x, y) = false) := by rw [Hid, inG, e1, e2]; rfl
      have F2 : Hid (plcO W H x y = 0) := by rw [Hid, plcO, if_neg]; rw [F.out]; decide
      rw [F.out, F2.out]
      clear e1 e2
      go_enter Try.func52, Try.ntmps52
      go_wp2_with fail
      generalize w.alloc (.cells #[.int .i64 x, .int .i64 y] 28) = w1 at *
      go_quiet ((first
        | (go_at_call 66; exact Calls.quiet_of_same ((WD.out _ (HG.out.drewN _)).mono fun _ _ ⟨h, k⟩ => ⟨h, k.symm⟩))
        | (go_at_call_of 76 (Value.int .i64 x); exact Calls.quiet_of_same ((I1.out _).mono fun _ _ ⟨h, k⟩ => ⟨h, k.symm⟩))
        | (go_at_call_of 76 (Value.int .i64 y); exact Calls.quiet_of_same ((I2.out _).mono fun _ _ ⟨h, k⟩ => ⟨h, k.symm⟩))))
      go_wp2_with fail
      go_ret2
      exact ⟨rfl, Ext.drawN B0 _⟩
    · rw [e2] at I2
      have F : Hid (inG W H (x, y) = true) := by rw [Hid, inG, e1, e2]; rfl
      have b1 := inB_iff.1 e1
      have b2 := inB_iff.1 e2
      obtain ⟨a, rfl⟩ : ∃ a : Nat, x = a := ⟨x.toNat, by omega⟩
      obtain ⟨b, rfl⟩ : ∃ b : Nat, y = b := ⟨y.toNat, by omega⟩
      have F2 : Hid (plcO W H a b = (b : Int) * W + a) := by rw [Hid, plcO, if_pos F.out, plc]; simp
      have mb : (b : Int) * (W : Int) ≤ 256 := by
        have : b * W ≤ 16 * 16 := Nat.mul_le_mul (by omega) hW
        have e2 : (b : Int) * (W : Int) = ((b * W : Nat) : Int) := by simp
        rw [e2]; omega
      have mb0 : (0 : Int) ≤ (b : Int) * (W : Int) := Int.mul_nonneg (by omega) (by omega)
      have w1' : IntKind.i64.wrap ((b : Int) * W) = (b : Int) * W := IntWalk.i64_in _ (by omega)
      have w2' : IntKind.i64.wrap ((b : Int) * W + a) = (b : Int) * W + a := IntWalk.i64_in _ (by omega)
      rw [F.out, F2.out]
      clear e1 e2 b1 b2 F F2
      go_enter Try.func52, Try.ntmps52
      go_wp2_with fail
      generalize w.alloc (.cells #[.int .i64 a, .int .i64 b] 28) = w1 at *
      go_quiet ((first
        | (go_at_call 66; exact Calls.quiet_of_same ((WD.out _ (HG.out.drewN _)).mono fun _ _ ⟨h, k⟩ => ⟨h, k.symm⟩))
        | (go_at_call_of 76 (Value.int .i64 (a : Int)); exact Calls.quiet_of_same ((I1.out _).mono fun _ _ ⟨h, k⟩ => ⟨h, k.symm⟩))
        | (go_at_call_of 76 (Value.int .i64 (b : Int)); exact Calls.quiet_of_same ((I2.out _).mono fun _ _ ⟨h, k⟩ => ⟨h, k.symm⟩))))
      go_wp2_with fail
      have HG2 := Lib.hid (HG.out.drewN nq)
      have B2 := Ext.drawN B0 nq
      replace k3 := cell_drewN (n := nq) k3
      replace k4 := cell_drewN (n := nq) k4
      clear HG B0
      generalize w1.drewN nq = w2 at *
      go_quiet ((go_at_call 66; exact Calls.quiet_of_same ((WD.out _ (HG2.out.drewN _)).mono fun _ _ ⟨h, k⟩ => ⟨h, k.symm⟩)))
      go_wp2_with fail
      go_ret2
      exact ⟨rfl, Ext.drawN B2 _⟩
end Go.Proofs.Ytajepoopicoodaa
